/-
  Parts of a walk, joined: EngZC EngZD EngZF EngZG EP3 EP4 EPB DSH EPS EngZE EP7 R1 ER3 EQ1. No condition.
-/
import Derived.Test.YtelgegefmjlimaaDoorP4
import Derived.Shelf.Strings.Builder1
import Derived.Shelf.Strings.Builder2
import Derived.Shelf.Strings.OnBuilder
import Derived.Shelf.Small.Strs
import Derived.Shelf.Strconv.Atoi
import Derived.Shelf.Strconv.Itoa0
import Derived.Shelf.Strconv.Itoa1
import Derived.Shelf.LaysM
import Derived.Shelf.Strconv.Itoa2
import Derived.Shelf.Strconv.Itoa3
import Derived.Shelf.Strconv.Itoa4
import Derived.Shelf.Strconv.AtoiErrFast
import Derived.Shelf.Strconv.ParseIntEmpty
import Derived.Shelf.Strconv.AtoiFail
import Derived.Shelf.Strconv.Clone
import Derived.Shelf.Strconv.SyntaxError
import Derived.Shelf.LaysC
import Derived.Shelf.Strconv.ToError
import Derived.Shelf.Strconv.Lower
import Derived.Shelf.Strconv.ParseUint10
import Derived.Shelf.Strconv.ParseUint10Empty
import Derived.Shelf.Strconv.ParseUint10Any
import Derived.Shelf.Strconv.ParseInt10
import Derived.Shelf.Strconv.AtoiLong
import Derived.Shelf.Strconv.AtoiInnerAll
import Derived.Shelf.Strconv.RangeError
import Derived.Shelf.Strconv.ToErrorRange
import Derived.Shelf.Strconv.AtoiAll
import Derived.Shelf.Strconv.ErrVarAll
import Derived.Shelf.Strings.Search1
import Derived.Shelf.Strings.Prefix
import Derived.Test.YtelgegefmjlimaaDoorProg
import Derived.Test.YtelgegefmjlimaaDoorP3
import Derived.Test.YtelgegefmjlimaaDoorP2
set_option linter.all false
/-
  A walk's engine: iterators that may let memory grow between their calls of yield: what a loop over them keeps must hold in memory that has grown. No condition.
-/
set_option linter.all false
namespace Go.Eng
open Go Go.RowKit
/-- an iterator whose own memory may grow: it hands over xs, one after the other, as long as it is told to go on -/
def SeqM {α : Type} (P : Program) (gf : FuncId) (lb : List Value) (encs : α → List Value) (xs : List α) (Cap : Mem → Prop) : Prop :=
  ∀ (w0 : World) (l : Nat) (J Jx : List α → Mem → SHeap → Prop) (m : Mem) (H : SHeap), (∀ pre m m' H, J pre m H → m.le m' → J pre m' H) → (∀ pre m m' H, Jx pre m H → m.le m' → Jx pre m' H) → Cap m → J [] m H →
    (∀ pre x post, xs = pre ++ x :: post → ∀ m1 H1 Hit, J pre m1 H1 → m.le m1 →
      YieldOK P w0 l (encs x).toArray m1 (Hit ++ H1) (fun m' H' => ∃ H2, H' = Hit ++ H2 ∧ J (pre ++ [x]) m' H2 ∧ m1.le m') (fun m' H' => ∃ H2, H' = Hit ++ H2 ∧ Jx (pre ++ [x]) m' H2 ∧ m1.le m')) →
    Does P gf (.func (.yield l) #[] #[] :: lb).toArray w0 m H (fun _ m' H' => m.le m' ∧ (J xs m' H' ∨ ∃ pre, pre <+: xs ∧ Jx pre m' H'))
theorem SeqC.m {α : Type} {P : Program} {gf : FuncId} {lb : List Value} {encs : α → List Value} {xs : List α} {Cap : Mem → Prop} (h : SeqC P gf lb encs xs Cap) : SeqM P gf lb encs xs Cap :=
  fun w0 l J Jx m H _ _ hc h0 hy => h w0 l J Jx m H hc h0 hy
section
variable {P : Program} {ro : Option Nat} {n : Nat} {w0 : World} {Q : Exit → Act → World → Prop} {r : Env} {ds : List Nat} {m : Mem} {H : SHeap}
  {ops : Array Oper} {l : List Oper} {d : Nat} {ty : TypeId} {pos : String} {after : Array Edge}
end
end Go.Eng

/-
  A walk's engine: contracts that are told of worlds, as contracts of the engine. No condition.
-/
set_option linter.all false
namespace Go.Eng
open Go Go.RowKit
theorem Does.ofSame {P : Program} {f : FuncId} {args : Array Value} {w0 : World} {m : Mem} {H : SHeap} {v : Value} (h : ∀ w, Sat w0 m H w → Calls P f args w fun e w' => e = .returned v ∧ w' = w) : Does P f args w0 m H (Gives v m H) :=
  fun w hs => (callsIn_wide.2 (h w hs)).mono fun _ _ ⟨he, hw⟩ => ⟨v, m, H, he, ⟨rfl, rfl, rfl⟩, by subst hw; exact hs⟩
theorem Does.ofBelow {P : Program} {f : FuncId} {args : Array Value} {w0 : World} {m : Mem} {H : SHeap} {v : Value} (h : ∀ w, Sat w0 m H w → Calls P f args w fun e w' => e = .returned v ∧ Below w.heap.size w w') : Does P f args w0 m H (Gives v m H) :=
  fun w hs => (callsIn_wide.2 (h w hs)).mono fun _ _ ⟨he, hw⟩ => ⟨v, m, H, he, ⟨rfl, rfl, rfl⟩, hs.below_keep hw⟩
/-- a variable of the library's holds some number -/
def GInt (g : Nat) (m : Mem) : Prop := ∃ cs T fz z, m g = some (.cells cs T fz) ∧ cs[0]? = some (.int .i64 z)
theorem GInt.le {g : Nat} {m m' : Mem} (h : GInt g m) (hm : m.le m') : GInt g m' := by
  obtain ⟨cs, T, fz, z, h1, h2⟩ := h
  exact ⟨cs, T, fz, z, hm _ _ h1, h2⟩
theorem GInt.cell {g : Nat} {m : Mem} {w0 w : World} {H : SHeap} (h : GInt g m) (hs : Sat w0 m H w) : ∃ z, w.cell? ⟨g, 0, none⟩ = some (.int .i64 z) := by
  obtain ⟨cs, T, fz, z, h1, h2⟩ := h
  exact ⟨z, by simp [World.cell?, hs.pers _ _ h1, h2]⟩
end Go.Eng

/-
  A walk's engine: what a loop over a function keeps in front of a frame; leaving such a loop. No condition.
-/
set_option linter.all false
namespace Go.Eng
open Go Go.RowKit
theorem Tail.app {Hfr : SHeap} : ∀ {H : SHeap}, Tail Hfr (H ++ Hfr) H
  | [] => .nil
  | _ :: _ => .cons Tail.app
theorem Tail.all {H : SHeap} : Tail [] H H := by
  have := Tail.app (Hfr := []) (H := H)
  rwa [List.append_nil] at this
section
variable {P : Program} {ro : Option Nat} {n : Nat} {w0 : World} {Q : Exit → Act → World → Prop} {r : Env} {ds : List Nat} {m : Mem} {H : SHeap}
theorem WC.heap {c : Code} {H' : SHeap} (hh : ∀ w, Sat w0 m H w → Sat w0 m H' w) (h : WC P ro n w0 c Q r ds m H') : WC P ro n w0 c Q r ds m H := fun tmps w ho hs => h tmps w ho (hh w hs)
end
end Go.Eng

/-
  A walk's engine: append to a row, its room told: a row that has none stays nil, or gets some; a Builder as the walks use it. No condition.
-/
set_option linter.all false
namespace Go.Eng
open Go Go.RowKit Go.ChangeMaps
section
variable {P : Program} {ro : Option Nat} {n : Nat} {w0 : World} {Q : Exit → Act → World → Prop} {r : Env} {ds : List Nat} {m : Mem} {H : SHeap}
  {ops : Array Oper} {l : List Oper} {d : Nat} {ty : TypeId} {pos : String} {after : Array Edge}
theorem run_append_row2 {t tx e : TypeId} {sz by' : Nat} {z : Value} {a : Option Addr} {cap : Nat} {es es' : List (List Value)} {x : Value} {w : World} (hu : P.underlying t = some (.slice e)) (hz : zeroB P e = some z) (hsz : sizeB P e = some sz) (hby : bytesB P e = some by')
    (hzs : z.cells.size = sz) (hs : Sat w0 m (.row a cap e sz es :: H) w) (hx : Src P sz tx x es'.length es'.flatten w) (hes : ∀ q ∈ es', q.length = sz) (h63 : es.length + es'.length ≤ 9223372036854775807) (hb : (es.length + es'.length) * by' ≤ 140737488355328) :
    ∃ a' cap' w', (Builtin.append_ #[t, tx] ty #[.slice a es.length cap, x]).run P w = .ok (.slice a' (es ++ es').length cap') w' ∧ Sat w0 m (.row a' cap' e sz (es ++ es') :: H) w' ∧ ((a = none ∨ 0 < cap) → (a' = none ∨ 0 < cap')) := by
  obtain ⟨i, hi, hib, _⟩ := run_info hby w
  have his : i.size = sz := by
    unfold sizeB at hsz; rw [hi] at hsz; simpa [lit_eq] using hsz
  have hiz : i.zero = some z := by
    unfold zeroB at hz; rw [hi] at hz; simpa using hz
  have hold : Item.holds w (.row a cap e sz es) := hs.own _ List.mem_cons_self
  by_cases hroom : es.length + es'.length ≤ cap
  · -- there is room
    cases a with
    | none =>
      have h1 : es = [] ∧ cap = 0 := hold
      obtain ⟨h1, h2⟩ := h1
      subst h1; subst h2
      have h3 : es' = [] := List.eq_nil_of_length_eq_zero (by simpa using hroom)
      subst h3
      refine ⟨none, 0, w, ?_, by simpa using hs, fun _ => .inl rfl⟩
      rcases hx.kind with ⟨e', hk⟩ | hk <;> simp [Builtin.append_, run_underlying hu, run_underlying hk, sizeOf, typeInfo, hi, hx.len, his]
      all_goals
        have := hx.cells
        simp at this
        simp [this]
    | some a =>
      obtain ⟨arr, fz, g1, g2, g3, g4, g5, g6, g7⟩ := hold
      have hal : a = ⟨a.block, 0, none⟩ := g1
      generalize hbk : a.block = b at *
      subst g1
      have hlen1 := flatten_length g6
      have hlen2 := flatten_length hes
      have hfitA : es.length * sz + es'.flatten.length ≤ arr.toList.length := by
        have hL : arr.toList.length = cap * sz := by simp [g3]
        rw [hlen2, ← Nat.add_mul, hL]; exact Nat.mul_le_mul_right _ hroom
      have hb1 : Sat w0 m (.blk b (.cells arr.toList.toArray e fz) :: H) w := by
        refine hs.turn (j := .blk b (.cells arr.toList.toArray e fz)) rfl rfl rfl (Nat.le_refl _) (fun _ _ _ => rfl) (by simpa [Item.holds] using g2) (fun y hy => .inl (by simpa [Item.foot] using hy)) (by simp [Item.foot])
      obtain ⟨w', k1, k2⟩ := run_laid (P := P) es'.flatten 0 (es.length * sz) arr.toList H w (by simpa using hfitA) (by rcases g7.1 with h | h; exact .inl h; exact .inr (.inr (by simpa using h))) (List.all_eq_true.2 fun u hu => hx.one u hu) hb1
      refine ⟨some ⟨b, 0, none⟩, cap, w', ?_, ?_, fun h => .inr (h.resolve_left (by simp))⟩
      · rcases hx.kind with ⟨e', hk⟩ | hk <;>
          simp [Builtin.append_, run_underlying hu, run_underlying hk, sizeOf, typeInfo, hi, hx.len, his, hroom, hx.cells, Addr.add_lit, k1]
      · have hw' : w'.heap[b]? = some (.cells (laid arr.toList (es.length * sz + 0) es'.flatten).toArray e fz) := k2.own _ List.mem_cons_self
        refine k2.turn (j := .row (some ⟨b, 0, none⟩) cap e sz (es ++ es')) rfl rfl rfl (Nat.le_refl _) (fun _ _ _ => rfl) ?_ (fun y hy => .inl (by simpa [Item.foot] using hy)) (by simp [Item.foot])
        refine ⟨_, fz, rfl, hw', ?_, by simpa using hroom, ?_, ?_, ?_⟩
        · simp [laid_length, g3]
        · simp only [Nat.add_zero, List.length_append, List.flatten_append]
          rw [Nat.add_mul, ← hlen2, take_laid _ _ _ hfitA, g5]
        · intro q hq
          rcases List.mem_append.1 hq with h | h
          · exact g6 q h
          · exact hes q h
        · exact ⟨by simpa [laid_length] using g7.1, fun hq => g7.2 (by simp only [List.length_append] at hq; omega)⟩
  · -- a new row
    have hfit := growslice_fits (bytes := i.bytes) (show cap < es.length + es'.length by omega) (by rw [hib]; exact hb)
    have holds : (∀ q ∈ es, q.length = sz) ∧ ∀ w1 : World, w1.heap = w.heap → (Builtin.firstCells i.size es.length (.slice a es.length cap)).run P w1 = .ok es.flatten.toArray w1 := by
      cases a with
      | none =>
        have h1 : es = [] ∧ cap = 0 := hold
        obtain ⟨h1, h2⟩ := h1
        subst h1
        exact ⟨(fun q hq => by cases hq), (fun w1 _ => by simp [Builtin.firstCells])⟩
      | some a =>
        have hold' := hold
        obtain ⟨arr, fz, g1, g2, g3, g4, g5, g6, _⟩ := hold
        refine ⟨g6, fun w1 hw1 => ?_⟩
        refine run_firstCells_some w1 i.size es.length a es.length cap es.flatten (by rw [his]; exact flatten_length g6) (fun j u hu => ?_)
        have hsp : a.spot = none := by rw [g1]
        have hoff : a.off = 0 := by rw [g1]
        rw [← g5, List.getElem?_take] at hu
        split at hu
        · rw [add_eq hsp, hoff]
          simp only [World.cell?, hw1, g2]
          simpa using hu
        · cases hu
    have hr := run_append_grow_src (P := P) w t tx ty e i z hu hi hiz a es.length cap es.flatten (holds.2 _ rfl) x es'.length es'.flatten (by rw [his]; exact hx) (by omega) (by omega) hfit
    have hge := grownCap_ge w (es.length + es'.length) cap e
    refine ⟨_, _, _, by rw [List.length_append]; exact hr, ?_, fun _ => .inr (by omega)⟩
    have hs2 : Sat w0 m H w.drew := hs.drop.drew
    have hs3 := hs2.alloc (.cells ((es.flatten ++ es'.flatten).toArray ++ Builtin.zeroCells z.cells (grownCap w (es.length + es'.length) cap e - (es.length + es'.length))) e (0, 0))
    refine hs3.turn (j := .row (some ⟨w.heap.size, 0, none⟩) (grownCap w (es.length + es'.length) cap e) e sz (es ++ es')) rfl rfl rfl (Nat.le_refl _) (fun _ _ _ => rfl) ?_ (fun y hy => .inl (by simpa [Item.foot] using hy)) (by simp [Item.foot])
    have hl1 := flatten_length holds.1
    have hl2 := flatten_length hes
    refine ⟨_, (0, 0), rfl, World.alloc_heap_new _ _, ?_, by simpa using hge, ?_, ?_, .inl rfl, fun _ => grownCap_le w h63 cap e⟩
    · simp only [Array.size_append, List.size_toArray, List.length_append, size_zeroCells, hzs, hl1, hl2, ← Nat.add_mul]
      congr 1; omega
    · simp only [Array.toList_append, List.flatten_append, List.length_append]
      rw [show (es.length + es'.length) * sz = (es.flatten ++ es'.flatten).length by rw [List.length_append, hl1, hl2, Nat.add_mul]]
      exact List.take_left
    · intro q hq
      rcases List.mem_append.1 hq with h | h
      · exact holds.1 q h
      · exact hes q h
theorem WL.appendS2 {t tx e : TypeId} {x y : Operand} {z : Value} {a : Option Addr} {cap len : Nat} {es : List (List Value)} {s : List UInt8} {H1 : SHeap} (hx : r.ev x = some (.slice a len cap)) (hy : r.ev y = some (str s))
    (hu : P.underlying t = some (.slice e)) (hux : P.underlying tx = some .string) (ho : Out (.row a cap e 1 es) H H1) (hz : zeroB P e = some z) (hsz : sizeB P e = some 1) (hby : bytesB P e = some 1) (hzs : z.cells.size = 1) (hlen : len = es.length)
    (hb : es.length + s.length ≤ 140737488355328) (hd : Nat.blt d n = true)
    (h : ∀ a' cap', ((a = none ∨ 0 < cap) → (a' = none ∨ 0 < cap')) → WL P ro n w0 ops Q l ((d, .slice a' (es.length + s.length) cap') :: r) ds m (.row a' cap' e 1 (es ++ s.map fun b => [Value.int .u8 (b.toNat : Int)]) :: H1)) :
    WL P ro n w0 ops Q (⟨some d, .call ⟨.builtin .append, #[x, y], #[t, tx]⟩, ty, pos, after, none⟩ :: l) r ds m H := by
  subst hlen
  refine .gen (fun v m' H' => ∃ a' cap', ((a = none ∨ 0 < cap) → (a' = none ∨ 0 < cap')) ∧ v = .slice a' (es.length + s.length) cap' ∧ m' = m ∧ H' = .row a' cap' e 1 (es ++ s.map fun b => [Value.int .u8 (b.toNat : Int)]) :: H1) hd (fun _ h => by cases h) (fun tmps w hok hs => ?_)
    (by rintro _ _ _ ⟨a', cap', hc, rfl, rfl, rfl⟩; exact h a' cap' hc)
  have hl : (s.map fun b => [Value.int .u8 (b.toNat : Int)]).length = s.length := List.length_map _
  obtain ⟨a', cap', w', h1, h2, h3⟩ := run_append_row2 (P := P) (ty := ty) (tx := tx) (es' := s.map fun b => [Value.int .u8 (b.toNat : Int)]) (x := str s) hu hz hsz hby hzs (hs.perm ho.perm)
    (by have := (Source.str (P := P) (w0 := w0) (m := m) (H := H) hux s) w hs; rw [hl, show (s.map fun b => [Value.int IntKind.u8 (b.toNat : Int)]).flatten = s.map fun b => Value.int .u8 (b.toNat : Int) from flatten_single _ s]; exact this) (by simp) (by rw [hl]; omega) (by rw [hl]; omega)
  rw [List.length_append, hl] at h1
  refine ⟨.slice a' (es.length + s.length) cap', m, _, w', ?_, h2, a', cap', h3, rfl, rfl, rfl⟩
  simp only [execOp, resolve, invoke, builtin, Sem.run_bind, Sem.run_pure, Result.andThen_ok, List.map_toArray, List.map_cons, List.map_nil, hok.ev hx, hok.ev hy, h1]
end
theorem rowR_blk {w0 : World} {m : Mem} {H : SHeap} {b sz : Nat} {L : List Value} {T : TypeId} {fz : Nat × Nat} {es : List (List Value)} (hm : Item.blk b (.cells L.toArray T fz) ∈ H) (hL : L = es.flatten) (hes : ∀ e ∈ es, e.length = sz) : RowR w0 m H sz (Option.some ⟨b, 0, none⟩) es := by
  intro w hs
  refine ⟨hes, fun j v hj => ?_⟩
  have h : w.heap[b]? = Option.some (.cells L.toArray T fz) := hs.own _ hm
  rw [add_eq rfl]
  subst hL
  simp only [Nat.zero_add, World.cell?, h]
  simpa using hj
end Go.Eng

/-
  The walk of the reference's Quoted. No condition.
-/
namespace Go.Eng
open Go Go.RowKit
section
variable {P : Program} {ro : Option Nat} {n : Nat} {w0 : World} {Q : Exit → Act → World → Prop} {ops : Array Oper} {l : List Oper} {r : Env} {ds : List Nat} {m : Mem} {H : SHeap} {d : Nat} {x y : Operand} {ty : TypeId} {pos : String} {after : Array Edge} {t t' : TypeId} {a b : Int}
theorem WL.quo8 (hx : r.ev x = some (.int .u8 a)) (hy : r.ev y = some (.int .u8 b)) (hd : Nat.blt d n = true) (ha : 0 ≤ a ∧ a ≤ 255) (hb : 1 ≤ b)
    (h : WL P ro n w0 ops Q l ((d, .int .u8 (a / b)) :: r) ds m H) : WL P ro n w0 ops Q (⟨some d, .binOp .quo t x y t', ty, pos, after, none⟩ :: l) r ds m H := by
  refine .quo hx hy hd (by omega) ?_
  have h1 : a.tdiv b = a / b := Int.tdiv_eq_ediv_of_nonneg ha.1
  have h2 : a / b ≤ a := Int.ediv_le_self _ ha.1
  have h3 : 0 ≤ a / b := Int.ediv_nonneg ha.1 (by omega)
  rw [h1, wrapu8_id ⟨h3, by omega⟩]
  exact h
theorem WL.rem8 (hx : r.ev x = some (.int .u8 a)) (hy : r.ev y = some (.int .u8 b)) (hd : Nat.blt d n = true) (ha : 0 ≤ a) (hb : 1 ≤ b)
    (h : WL P ro n w0 ops Q l ((d, .int .u8 (a % b)) :: r) ds m H) : WL P ro n w0 ops Q (⟨some d, .binOp .rem t x y t', ty, pos, after, none⟩ :: l) r ds m H := by
  refine .rem hx hy hd (by omega) ?_
  rw [Int.tmod_eq_emod_of_nonneg ha]
  exact h
end
theorem bCs_cat (s t : List UInt8) : bCs s ++ bCs t = bCs (s ++ t) := by simp [bCs]
theorem bCs_okc (s : List UInt8) : ∀ q ∈ bCs s, q.all okCell = true := fun q hq => by
  obtain ⟨c, _, rfl⟩ := List.mem_map.1 hq; rfl
theorem bCs_ones (s : List UInt8) : ∀ q ∈ bCs s, q.length = 1 := fun q hq => by
  obtain ⟨c, _, rfl⟩ := List.mem_map.1 hq; rfl
theorem hexL_length : ∀ (k n : Nat), n < 16 ^ (k + 1) → (hexL n).length ≤ k + 1
  | 0, n, h => by
    rw [hexL, if_pos (by simpa using h)]; exact Nat.le_refl _
  | k + 1, n, h => by
    rw [hexL]
    by_cases h1 : n < 16
    · rw [if_pos h1]; simp
    · rw [if_neg h1, List.length_append, List.length_singleton]
      have := hexL_length k (n / 16) (by rw [Nat.div_lt_iff_lt_mul (by omega)]; rw [Nat.pow_succ] at h; exact h)
      omega
theorem pieceW_length (s : List UInt8) (p : Pc) (h : p.r ≤ 1114111) : (pieceW s p).length ≤ 12 := by
  have := hexL_length 5 p.r (by omega)
  unfold pieceW
  split
  · simp
  · split
    · simp
    · split
      · simp
      · simp only [List.length_append, List.length_cons, List.length_nil]; omega
end Go.Eng
namespace Go.Proofs.YtelgegefmjlimaaDoor
open Go Go.Eng
set_option maxRecDepth 100000
set_option maxHeartbeats 4000000
set_option linter.all false
attribute [local irreducible] WL WC WQ QFun QLoop Does Q1 QRound QAssign Go.Addr.add
theorem sq_EP3_1 {G : Prop} (h : G := by (repeat (first | (refine sp ?_; (repeat intro zzc)) | (refine WL.quo8 rfl rfl rfl (by omega) (by omega) ?_) | (refine WL.rem8 rfl rfl rfl (by omega) (by omega) ?_))); exact WQ.q1 rfl) : G := h
theorem cm_EP3_1 {G G' : Prop} (next : G') (h : Bx G' → G := by intro zzn; (try (refine wcal 0 ?_ (hwl := by intro zm zF zle; exact sq_EP3_1))); (try (refine wcal 1 ?_ (hwl := by intro zm zF zle; exact sq_EP3_1))); (try (refine wcal 2 ?_ (hwl := by intro zm zF zle; exact sq_EP3_1))); (try (refine wcal 3 ?_ (hwl := by intro zm zF zle; exact sq_EP3_1))); (try (refine wcal 4 ?_ (hwl := by intro zm zF zle; exact sq_EP3_1))); (try (refine wcal 5 ?_ (hwl := by intro zm zF zle; exact sq_EP3_1))); (try (refine wcal 6 ?_ (hwl := by intro zm zF zle; exact sq_EP3_1))); (try (refine wcal 7 ?_ (hwl := by intro zm zF zle; exact sq_EP3_1))); (try (refine wcal 8 ?_ (hwl := by intro zm zF zle; exact sq_EP3_1))); (try (refine wcal 9 ?_ (hwl := by intro zm zF zle; exact sq_EP3_1))); (try (refine wcal 10 ?_ (hwl := by intro zm zF zle; exact sq_EP3_1))); (try (refine wcal 11 ?_ (hwl := by intro zm zF zle; exact sq_EP3_1))); (try (refine wcal 12 ?_ (hwl := by intro zm zF zle; exact sq_EP3_1))); (try (refine wcal 13 ?_ (hwl := by intro zm zF zle; exact sq_EP3_1))); (try (refine wcal 14 ?_ (hwl := by intro zm zF zle; exact sq_EP3_1))); (try (refine wcal 15 ?_ (hwl := by intro zm zF zle; exact sq_EP3_1))); (try (refine wcal 16 ?_ (hwl := by intro zm zF zle; exact sq_EP3_1))); (try (refine wcal 17 ?_ (hwl := by intro zm zF zle; exact sq_EP3_1))); (try (refine wcal 18 ?_ (hwl := by intro zm zF zle; exact sq_EP3_1))); (try (refine wcal 19 ?_ (hwl := by intro zm zF zle; exact sq_EP3_1))); (try (refine wcal 20 ?_ (hwl := by intro zm zF zle; exact sq_EP3_1))); (try (refine wcal 21 ?_ (hwl := by intro zm zF zle; exact sq_EP3_1))); (try (refine wcal 22 ?_ (hwl := by intro zm zF zle; exact sq_EP3_1))); (try (refine wcal 23 ?_ (hwl := by intro zm zF zle; exact sq_EP3_1))); (try (refine wcal 24 ?_ (hwl := by intro zm zF zle; exact sq_EP3_1))); (try (refine wcal 25 ?_ (hwl := by intro zm zF zle; exact sq_EP3_1))); (try (refine wcal 26 ?_ (hwl := by intro zm zF zle; exact sq_EP3_1))); (try (refine wcal 27 ?_ (hwl := by intro zm zF zle; exact sq_EP3_1))); (try (refine wcal 28 ?_ (hwl := by intro zm zF zle; exact sq_EP3_1))); (try (refine wcal 29 ?_ (hwl := by intro zm zF zle; exact sq_EP3_1))); (try (refine wcal 30 ?_ (hwl := by intro zm zF zle; exact sq_EP3_1))); (try (refine wcal 31 ?_ (hwl := by intro zm zF zle; exact sq_EP3_1))); (try (refine wcal 32 ?_ (hwl := by intro zm zF zle; exact sq_EP3_1))); (try (refine wcal 33 ?_ (hwl := by intro zm zF zle; exact sq_EP3_1))); (try (refine wcal 34 ?_ (hwl := by intro zm zF zle; exact sq_EP3_1))); (try (refine wcal 35 ?_ (hwl := by intro zm zF zle; exact sq_EP3_1))); (try (refine wcal 36 ?_ (hwl := by intro zm zF zle; exact sq_EP3_1))); (try (refine wcal 37 ?_ (hwl := by intro zm zF zle; exact sq_EP3_1))); (try (refine wcal 38 ?_ (hwl := by intro zm zF zle; exact sq_EP3_1))); (try (refine wcal 39 ?_ (hwl := by intro zm zF zle; exact sq_EP3_1))); (try (refine wcal 40 ?_ (hwl := by intro zm zF zle; exact sq_EP3_1))); (try (refine wcal 41 ?_ (hwl := by intro zm zF zle; exact sq_EP3_1))); exact zzn.out) : G := h ⟨next⟩
theorem st_EP3_1 {G G' : Prop} (next : G') (h : Bx G' → G := by intro zzn; (first | ((refine st ?_; (repeat intro zzc)); (try ((first | (refine WL.quo8 rfl rfl rfl (by omega) (by omega) ?_) | (refine WL.rem8 rfl rfl rfl (by omega) (by omega) ?_) | ((refine iDraw ?_; (first | refine WC.drawAll rfl (by decide +kernel) ?_ | refine WC.draw 1 rfl (by decide +kernel) ?_ | refine WC.draw 2 rfl (by decide +kernel) ?_ | refine WC.draw 3 rfl (by decide +kernel) ?_ | refine WC.draw 4 rfl (by decide +kernel) ?_ | refine WC.draw 5 rfl (by decide +kernel) ?_ | refine WC.draw 6 rfl (by decide +kernel) ?_ | refine WC.draw 7 rfl (by decide +kernel) ?_ | refine WC.draw 8 rfl (by decide +kernel) ?_ | refine WC.draw 9 rfl (by decide +kernel) ?_ | refine WC.draw 10 rfl (by decide +kernel) ?_ | refine WC.draw 11 rfl (by decide +kernel) ?_ | refine WC.draw 12 rfl (by decide +kernel) ?_ | refine WC.draw 13 rfl (by decide +kernel) ?_ | refine WC.draw 14 rfl (by decide +kernel) ?_ | refine WC.draw 15 rfl (by decide +kernel) ?_ | refine WC.draw 16 rfl (by decide +kernel) ?_ | refine WC.draw 17 rfl (by decide +kernel) ?_ | refine WC.draw 18 rfl (by decide +kernel) ?_ | refine WC.draw 19 rfl (by decide +kernel) ?_ | refine WC.draw 20 rfl (by decide +kernel) ?_ | refine WC.draw 21 rfl (by decide +kernel) ?_ | refine WC.draw 22 rfl (by decide +kernel) ?_ | refine WC.draw 23 rfl (by decide +kernel) ?_ | refine WC.draw 24 rfl (by decide +kernel) ?_)); (repeat (refine WD.cons rfl (fun c h => by cases h) sq_EP3_1 ?_)); refine WD.nil ?_)); (try (refine st ?_; (repeat intro zzc)))))) | ((first | (refine WL.quo8 rfl rfl rfl (by omega) (by omega) ?_) | (refine WL.rem8 rfl rfl rfl (by omega) (by omega) ?_) | ((refine iDraw ?_; (first | refine WC.drawAll rfl (by decide +kernel) ?_ | refine WC.draw 1 rfl (by decide +kernel) ?_ | refine WC.draw 2 rfl (by decide +kernel) ?_ | refine WC.draw 3 rfl (by decide +kernel) ?_ | refine WC.draw 4 rfl (by decide +kernel) ?_ | refine WC.draw 5 rfl (by decide +kernel) ?_ | refine WC.draw 6 rfl (by decide +kernel) ?_ | refine WC.draw 7 rfl (by decide +kernel) ?_ | refine WC.draw 8 rfl (by decide +kernel) ?_ | refine WC.draw 9 rfl (by decide +kernel) ?_ | refine WC.draw 10 rfl (by decide +kernel) ?_ | refine WC.draw 11 rfl (by decide +kernel) ?_ | refine WC.draw 12 rfl (by decide +kernel) ?_ | refine WC.draw 13 rfl (by decide +kernel) ?_ | refine WC.draw 14 rfl (by decide +kernel) ?_ | refine WC.draw 15 rfl (by decide +kernel) ?_ | refine WC.draw 16 rfl (by decide +kernel) ?_ | refine WC.draw 17 rfl (by decide +kernel) ?_ | refine WC.draw 18 rfl (by decide +kernel) ?_ | refine WC.draw 19 rfl (by decide +kernel) ?_ | refine WC.draw 20 rfl (by decide +kernel) ?_ | refine WC.draw 21 rfl (by decide +kernel) ?_ | refine WC.draw 22 rfl (by decide +kernel) ?_ | refine WC.draw 23 rfl (by decide +kernel) ?_ | refine WC.draw 24 rfl (by decide +kernel) ?_)); (repeat (refine WD.cons rfl (fun c h => by cases h) sq_EP3_1 ?_)); refine WD.nil ?_)); (try (refine st ?_; (repeat intro zzc))))); (repeat ((first | (refine WL.quo8 rfl rfl rfl (by omega) (by omega) ?_) | (refine WL.rem8 rfl rfl rfl (by omega) (by omega) ?_) | ((refine iDraw ?_; (first | refine WC.drawAll rfl (by decide +kernel) ?_ | refine WC.draw 1 rfl (by decide +kernel) ?_ | refine WC.draw 2 rfl (by decide +kernel) ?_ | refine WC.draw 3 rfl (by decide +kernel) ?_ | refine WC.draw 4 rfl (by decide +kernel) ?_ | refine WC.draw 5 rfl (by decide +kernel) ?_ | refine WC.draw 6 rfl (by decide +kernel) ?_ | refine WC.draw 7 rfl (by decide +kernel) ?_ | refine WC.draw 8 rfl (by decide +kernel) ?_ | refine WC.draw 9 rfl (by decide +kernel) ?_ | refine WC.draw 10 rfl (by decide +kernel) ?_ | refine WC.draw 11 rfl (by decide +kernel) ?_ | refine WC.draw 12 rfl (by decide +kernel) ?_ | refine WC.draw 13 rfl (by decide +kernel) ?_ | refine WC.draw 14 rfl (by decide +kernel) ?_ | refine WC.draw 15 rfl (by decide +kernel) ?_ | refine WC.draw 16 rfl (by decide +kernel) ?_ | refine WC.draw 17 rfl (by decide +kernel) ?_ | refine WC.draw 18 rfl (by decide +kernel) ?_ | refine WC.draw 19 rfl (by decide +kernel) ?_ | refine WC.draw 20 rfl (by decide +kernel) ?_ | refine WC.draw 21 rfl (by decide +kernel) ?_ | refine WC.draw 22 rfl (by decide +kernel) ?_ | refine WC.draw 23 rfl (by decide +kernel) ?_ | refine WC.draw 24 rfl (by decide +kernel) ?_)); (repeat (refine WD.cons rfl (fun c h => by cases h) sq_EP3_1 ?_)); refine WD.nil ?_)); (try (refine st ?_; (repeat intro zzc))))); (repeat revert zzc); exact zzn.out) : G := h ⟨next⟩
attribute [local irreducible] readP pieces dl from_ pieceW hexHi
theorem refQuoted_any (s : List UInt8) (hs : s.length ≤ 1000000) (w0 : World) (m : Mem) (H : SHeap) :
    Does Tryd.prog 27 #[str s] w0 m H (Gives (str (quotedW s)) m H) := by
  refine Does.of_body (args := [str s]) Tryd.func27 rfl Tryd.ntmps27 rfl ?_
  refine WC.newRow (T := 5) (sz := 1) ?_
  have eG : ∀ (z : Int) (k : Nat), z = (k : Int) → (gb [48, 49, 50, 51, 52, 53, 54, 55, 56, 57, 97, 98, 99, 100, 101, 102] z.toNat : Int) = ((hexB k).toNat : Int) := by rintro z k rfl; rfl
  have hp0 : pieces s = from_ s 0 := by unfold pieces; rfl
  have hpl : (pieces s).length ≤ s.length := by have := pieces_count s _ 0 (Nat.le_refl _); rw [hp0]; omega
  have h0 : ([] : List (List Value)).length = 0 := rfl
  (refine st_EP3_1 ?_; intros; rename_i a1 a2 c1)
  refine w_callF Tryd.func53 ?_ (hs := p3_any s hs _ _ _)
  rintro v m H1 ⟨rfl, cp0, kp, rfl, rfl⟩
  rw [List.nil_append, show ([[Value.int .u8 34]] : List (List Value)) = bCs [34] from rfl]
  (try (refine st_EP3_1 ?_; intros))
  refine WC.loopH [(5, .int .i64 ((0) : Int)), (4, .slice cp0 (pieces s).length kp), (0, str s), (3, .slice (a2) (1) (c1))] ?_ ?_ (fun j r ds m' H' => ∃ (i : Nat) (a9 : Option Addr) (c9 : Nat) (n9 : Nat) (O : List UInt8), j = (pieces s).length - i ∧ r = [(5, .int .i64 (i : Int)), (4, .slice cp0 (pieces s).length kp), (0, str s), (3, .slice a9 n9 c9)] ∧ ds = [] ∧ m = m' ∧ H' = .row a9 c9 5 1 (bCs O) :: .row cp0 kp 105 4 ((pieces s).map Pc.cs) :: H ∧ (i ≤ (pieces s).length) ∧ (n9 = O.length) ∧ (O = [34] ++ piecesW s ((pieces s).take i)) ∧ (O.length ≤ 1 + 12 * i)) ((pieces s).length - (0)) ⟨0, a2, c1, 1, [34], rfl, rfl, rfl, rfl, rfl, Nat.zero_le _, rfl, rfl, by simp⟩ ?_
  · (repeat (first | exact Env.Sub.nil | refine Env.Sub.cons rfl ?_))
  · exact zpk
  rintro j r ds m' H' ⟨i, a9, c9, n9, O, rfl, rfl, rfl, rfl, rfl, hi, hn9, hO, hOl⟩
  subst hn9
  have hbl := bCs_length O
  by_cases hlt : i < (pieces s).length
  · obtain ⟨x, hx, hget, htk, hmem, hdr⟩ := at_idx (f := Pc.cs) hlt
    refine WC.rowSome (a := cp0) (es := (pieces s).map Pc.cs) zhs (by simp; omega) ?_
    rintro p0 rfl
    obtain ⟨_, hax, hrx⟩ := reach_of_mem hmem
    have hrl : x.r ≤ 1114111 := by have := okr_le (readP_ok hax); rw [← hrx] at this; exact this
    have hW := pieceW_length s x hrl
    have hnext : O ++ pieceW s x = [34] ++ piecesW s ((pieces s).take (i + 1)) := by
      rw [hO, htk]; unfold piecesW; rw [List.flatMap_append]; simp
    have e0 : (x.cs)[0]? = some (.int .i64 (x.at_ : Int)) := rfl
    have e2 : (x.cs)[2]? = some (.int .i32 (x.r : Int)) := rfl
    have e3 : (x.cs)[3]? = some (.bool x.b) := rfl
    generalize hE : (pieces s).map Pc.cs = E at *
    have h256 : x.r < 256 → (x.r : Int) = ((UInt8.ofNat x.r).toNat : Int) := fun h => by rw [UInt8.toNat_ofNat']; omega
    have hOn : O.length + (pieceW s x).length ≤ 1 + 12 * (i + 1) := by omega
    cases hb : x.b with
    | true =>
      rw [hb] at e3
      have hg : gb s x.at_ < 256 := gb_lt s x.at_
      have hw : pieceW s x = [92, 120, hexB (gb s x.at_ / 16), hexB (gb s x.at_ % 16)] := by unfold pieceW; rw [if_pos hb]
      have hl16 : ([48, 49, 50, 51, 52, 53, 54, 55, 56, 57, 97, 98, 99, 100, 101, 102] : List UInt8).length = 16 := rfl
      have hwl : (bCs (pieceW s x)).length = 4 := by rw [hw]; rfl
      have eL : [Value.int .u8 92, .int .u8 120, .int .u8 ((hexB (gb s x.at_ / 16)).toNat : Int), .int .u8 ((hexB (gb s x.at_ % 16)).toNat : Int)] = (bCs (pieceW s x)).flatten := by rw [hw]; rfl
      have el : (bCs O).length + (bCs (pieceW s x)).length = (O ++ pieceW s x).length := by rw [bCs_length, bCs_length, List.length_append]
      (try (refine st_EP3_1 ?_; intros))
      refine WC.drawE 9 ([]) (.row a9 c9 5 1 (bCs O) :: .row (some p0) kp 105 4 E :: H) rfl (by decide +kernel) zpk ?_
      (refine cm_EP3_1 ?_)
      refine WE.act1 7 (by decide +kernel) rfl rfl (fun c h => by cases h) ?_
      (refine st_EP3_1 ?_; intros; rename_i q)
      rw [eG ((gb s x.at_ : Int) / 16) (gb s x.at_ / 16) (by omega), eG ((gb s x.at_ : Int) % 16) (gb s x.at_ % 16) (by omega)]
      refine WQ.acted (B := [.blk q (.cells [.int .u8 92, .int .u8 120, .int .u8 ((hexB (gb s x.at_ / 16)).toNat : Int), .int .u8 ((hexB (gb s x.at_ % 16)).toNat : Int)].toArray 5 (0, 0))]) (U := .row a9 c9 5 1 (bCs O) :: .row (some p0) kp 105 4 E :: H) rfl (Mem.le.refl _) zpk ?_
      refine WE.act1 8 (by decide +kernel) rfl rfl (fun c h => by cases h) ?_
      refine WL.appendR (es := bCs O) (es' := bCs (pieceW s x)) (by' := 1) rfl rfl rfl rfl (by (repeat (first | exact Out.here | apply Out.there))) (rowR_blk (T := 5) (fz := (0, 0)) (L := [.int .u8 92, .int .u8 120, .int .u8 ((hexB (gb s x.at_ / 16)).toNat : Int), .int .u8 ((hexB (gb s x.at_ % 16)).toNat : Int)]) zhs eL (bCs_ones _)) (bCs_okc _) (bCs_ones _) rfl rfl rfl rfl hbl.symm hwl.symm (by rw [hbl, hwl]; omega) (by omega) rfl ?_
      intro a8 c8
      rw [bCs_cat, el]
      (try (refine st_EP3_1 ?_; intros))
      refine WQ.acted (B := []) (U := .row a8 c8 5 1 (bCs (O ++ pieceW s x)) :: .row (some p0) kp 105 4 E :: H) rfl (Mem.le.refl _) zpk ?_
      refine WE.done (by decide +kernel) ?_
      (try (refine st_EP3_1 ?_; intros))
      refine WQ.next ((pieces s).length - (i + 1)) ⟨i + 1, a8, c8, (O ++ pieceW s x).length, O ++ pieceW s x, rfl, rfl, rfl, rfl, rfl, ?_, ?_, ?_, ?_⟩ (by omega) zsb zpk
      · omega
      · rfl
      · exact hnext
      · rw [List.length_append]; omega
    | false =>
      rw [hb] at e3
      by_cases h34 : x.r = 34 ∨ x.r = 92
      · have hw : pieceW s x = [92, UInt8.ofNat x.r] := by unfold pieceW; rw [if_neg (by rw [hb]; decide), if_pos h34]
        have hwl : (bCs (pieceW s x)).length = 2 := by rw [hw]; rfl
        have eL : [Value.int .u8 92, .int .u8 (x.r : Int)] = (bCs (pieceW s x)).flatten := by rw [h256 (by omega), hw]; rfl
        have el : (bCs O).length + (bCs (pieceW s x)).length = (O ++ pieceW s x).length := by rw [bCs_length, bCs_length, List.length_append]
        rcases h34 with h34 | h34
        all_goals
          (refine st_EP3_1 ?_; intros; rename_i q)
          refine WL.appendR (es := bCs O) (es' := bCs (pieceW s x)) (by' := 1) rfl rfl rfl rfl (by (repeat (first | exact Out.here | apply Out.there))) (rowR_blk (T := 5) (fz := (0, 0)) (L := [.int .u8 92, .int .u8 (x.r : Int)]) zhs eL (bCs_ones _)) (bCs_okc _) (bCs_ones _) rfl rfl rfl rfl hbl.symm hwl.symm (by rw [hbl, hwl]; omega) (by omega) rfl ?_
          intro a8 c8
          rw [bCs_cat, el]
          (try (refine st_EP3_1 ?_; intros))
          refine WQ.next ((pieces s).length - (i + 1)) ⟨i + 1, a8, c8, (O ++ pieceW s x).length, O ++ pieceW s x, rfl, rfl, rfl, rfl, rfl, ?_, ?_, ?_, ?_⟩ (by omega) zsb zpk
          · omega
          · rfl
          · exact hnext
          · rw [List.length_append]; omega
      · by_cases h32 : 32 ≤ x.r ∧ x.r ≤ 126
        · have hw : pieceW s x = [UInt8.ofNat x.r] := by unfold pieceW; rw [if_neg (by rw [hb]; decide), if_neg h34, if_pos h32]
          have ea : bCs O ++ [[Value.int .u8 (x.r : Int)]] = bCs (O ++ pieceW s x) := by rw [h256 (by omega), hw, ← bCs_cat]; rfl
          have el : (bCs O).length + 1 = (O ++ pieceW s x).length := by rw [hbl, hw]; simp
          (refine st_EP3_1 ?_; intros; rename_i q a8 c8)
          rw [ea, el]
          refine WQ.next ((pieces s).length - (i + 1)) ⟨i + 1, a8, c8, (O ++ pieceW s x).length, O ++ pieceW s x, rfl, rfl, rfl, rfl, rfl, ?_, ?_, ?_, ?_⟩ (by omega) zsb zpk
          · omega
          · rfl
          · exact hnext
          · rw [List.length_append]; omega
        · have hw : pieceW s x = [92, 123] ++ hexL x.r ++ [125] := by unfold pieceW; rw [if_neg (by rw [hb]; decide), if_neg h34, if_neg h32]
          have hl16 : ([48, 49, 50, 51, 52, 53, 54, 55, 56, 57, 97, 98, 99, 100, 101, 102] : List UInt8).length = 16 := rfl
          rcases (show x.r < 32 ∨ (32 ≤ x.r ∧ 126 < x.r) by omega) with h33 | h33
          all_goals
            (refine st_EP3_1 ?_; intros; rename_i q)
            rw [eG _ (x.r % 16) (by omega)]
            refine WL.blkStr (s := [hexB (x.r % 16)]) rfl zhs rfl rfl rfl rfl rfl rfl rfl ?_
            (try (refine st_EP3_1 ?_; intros))
            refine WC.loopH [(6, .int .i32 ((x.r) : Int)), (8, str ([hexB (x.r % 16)])), (5, .int .i64 (i : Int)), (4, .slice (some p0) (pieces s).length kp), (0, str s), (3, .slice a9 O.length c9)] ?_ ?_ (fun j r ds m' H' => ∃ (u : Nat) (d : List UInt8), j = 2 * u ∧ r = [(6, .int .i32 (u : Int)), (8, str d), (5, .int .i64 (i : Int)), (4, .slice (some p0) (pieces s).length kp), (0, str s), (3, .slice a9 O.length c9)] ∧ ds = [] ∧ m = m' ∧ H' = .row a9 c9 5 1 (bCs O) :: .row (some p0) kp 105 4 E :: H ∧ (hexHi u ++ d = hexL x.r) ∧ (u ≤ x.r ∧ d.length + u ≤ x.r + 1)) (2 * (x.r)) ⟨x.r, [hexB (x.r % 16)], rfl, rfl, rfl, rfl, rfl, hexL_hi x.r, ⟨Nat.le_refl _, by simp; omega⟩⟩ ?_
            · (repeat (first | exact Env.Sub.nil | refine Env.Sub.cons rfl ?_))
            · exact zpk
            rintro j r ds m' H' ⟨u, d, rfl, rfl, rfl, rfl, rfl, hd, hv⟩
            by_cases h9 : 15 < u
            · have e2 : (u : Int) / 16 = ((u / 16 : Nat) : Int) := by omega
              have hl1 : ([hexB (u / 16 % 16)] : List UInt8).length = 1 := rfl
              (refine st_EP3_1 ?_; intros; rename_i q2)
              rw [eG _ (u / 16 % 16) (by omega)]
              refine WL.blkStr (s := [hexB (u / 16 % 16)]) rfl zhs rfl rfl rfl rfl rfl rfl rfl ?_
              (try (refine st_EP3_1 ?_; intros))
              rw [e2]
              refine WQ.next (2 * (u / 16)) ⟨u / 16, [hexB (u / 16 % 16)] ++ d, rfl, rfl, rfl, rfl, rfl, ?_, ?_⟩ (by omega) zsb zpk
              · rw [← hd, ← List.append_assoc, hexL_hi, hexHi, if_pos h9]
              · rw [List.length_append, List.length_singleton]; omega
            · have ed : d = hexL x.r := by rw [← hd, hexHi, if_neg h9]; rfl
              subst ed
              have hx5 := hexL_length 5 x.r (by omega)
              have l2 : ([92, 123] : List UInt8).length = 2 := rfl
              have l3 : ([92, 123] ++ hexL x.r).length = 2 + (hexL x.r).length := by rw [List.length_append]; rfl
              have l1 : ([125] : List UInt8).length = 1 := rfl
              have l4 : ([92, 123] ++ hexL x.r ++ [125]).length = (pieceW s x).length := by rw [hw]
              have el : (bCs O).length + (pieceW s x).length = (O ++ pieceW s x).length := by rw [bCs_length, List.length_append]
              have em : (bCs O ++ List.map (fun b => [Value.int .u8 (b.toNat : Int)]) ([92, 123] ++ hexL x.r ++ [125])) = bCs (O ++ pieceW s x) := by rw [← hw, ← bCs_cat]; rfl
              (refine st_EP3_1 ?_; intros; rename_i a8 c8)
              rw [em, l4, el]
              refine WQ.next ((pieces s).length - (i + 1)) ⟨i + 1, a8, c8, (O ++ pieceW s x).length, O ++ pieceW s x, rfl, rfl, rfl, rfl, rfl, ?_, ?_, ?_, ?_⟩ (by omega) zsb zpk
              · omega
              · rfl
              · exact hnext
              · rw [List.length_append]; omega
  · obtain rfl : i = (pieces s).length := by omega
    rw [List.take_length] at hO
    have hq : O ++ [34] = quotedW s := by rw [hO]; rfl
    have ea : bCs O ++ [[Value.int .u8 34]] = bCs (O ++ [34]) := by rw [← bCs_cat]; rfl
    have el : (bCs O).length + 1 = (O ++ [34]).length := by rw [hbl]; simp
    (try (refine st_EP3_1 ?_; intros))
    rw [ea, el]
    refine WL.rowStr (s := O ++ [34]) rfl rfl zhs rfl rfl rfl rfl rfl ?_
    rw [hq]
    (try (refine st_EP3_1 ?_; intros))
    exact q_fin0 (H0 := H) (Gives.mk rfl) (hd := zpk)
end Go.Proofs.YtelgegefmjlimaaDoor

/-
  The walk of the reference's Print. No condition.
-/
namespace Go.Eng
open Go Go.RowKit
theorem decL_length : ∀ (k n : Nat), n < 10 ^ (k + 1) → (decL n).length ≤ k + 1
  | 0, n, h => by
    rw [decL, if_pos (by simpa using h)]; exact Nat.le_refl _
  | k + 1, n, h => by
    rw [decL]
    by_cases h1 : n < 10
    · rw [if_pos h1]; simp
    · rw [if_neg h1, List.length_append, List.length_singleton]
      have := decL_length k (n / 10) (by rw [Nat.div_lt_iff_lt_mul (by omega)]; rw [Nat.pow_succ] at h; exact h)
      omega
theorem piecesW_length (s : List UInt8) : ∀ (l : List Pc), (∀ p ∈ l, p.r ≤ 1114111) → (piecesW s l).length ≤ 12 * l.length
  | [], _ => Nat.le_refl _
  | p :: l, h => by
    have h1 := pieceW_length s p (h p List.mem_cons_self)
    have h2 := piecesW_length s l fun q hq => h q (List.mem_cons_of_mem _ hq)
    unfold piecesW at h2 ⊢
    rw [List.flatMap_cons, List.length_append, List.length_cons]; omega
theorem quotedW_length (s : List UInt8) : (quotedW s).length ≤ 2 + 12 * s.length := by
  have h1 := piecesW_length s (pieces s) fun p hp => by
    obtain ⟨_, h2, h3⟩ := reach_of_mem hp
    have := okr_le (readP_ok h2)
    rw [← h3] at this; exact this
  have h2 : (pieces s).length ≤ s.length := by have := pieces_count s _ 0 (Nat.le_refl _); rw [show pieces s = from_ s 0 by unfold pieces; rfl]; omega
  unfold quotedW
  simp only [List.length_append, List.length_cons, List.length_nil]; omega
theorem printW_snoc : ∀ (l : List Stp) (x : Stp), l ≠ [] → printW (l ++ [x]) = printW l ++ [32] ++ stpW x
  | [], x, h => absurd rfl h
  | [y], x, _ => rfl
  | y :: z :: l, x, _ => by
    have := printW_snoc (z :: l) x (by simp)
    simp only [List.cons_append] at this ⊢
    rw [printW, printW, this]; simp
end Go.Eng
namespace Go.Proofs.YtelgegefmjlimaaDoor
open Go Go.Eng
set_option maxRecDepth 100000
set_option maxHeartbeats 4000000
set_option linter.all false
attribute [local irreducible] WL WC WQ QFun QLoop Does Q1 QRound QAssign Go.Addr.add
attribute [local irreducible] quotedW stpW printW
theorem figuresZ_any (z : Int) (hz : 0 ≤ z ∧ z ≤ 1000000000) (w0 : World) (m : Mem) (H : SHeap) : Does Tryd.prog 63 #[.int .i64 z] w0 m H (Gives (str (decL z.toNat)) m H) := by
  obtain ⟨n, rfl⟩ : ∃ n : Nat, z = n := ⟨z.toNat, by omega⟩
  exact figures_any n (by omega) w0 m H
theorem sq_EP4_1 {G : Prop} (h : G := by (repeat (first | (refine sp ?_; (repeat intro zzc)) | (refine iF 63 rfl ?_; refine w_callG Tryd.func63 ?_ (hs := figuresZ_any _ (by omega) _ _ _)) | (refine iF 27 rfl ?_; refine w_callG Tryd.func27 ?_ (hs := refQuoted_any _ (by omega) _ _ _)))); exact WQ.q1 rfl) : G := h
theorem st_EP4_1 {G G' : Prop} (next : G') (h : Bx G' → G := by intro zzn; (first | ((refine st ?_; (repeat intro zzc)); (try ((first | (refine iF 63 rfl ?_; refine w_callG Tryd.func63 ?_ (hs := figuresZ_any _ (by omega) _ _ _)) | (refine iF 27 rfl ?_; refine w_callG Tryd.func27 ?_ (hs := refQuoted_any _ (by omega) _ _ _)) | ((refine iDraw ?_; (first | refine WC.drawAll rfl (by decide +kernel) ?_ | refine WC.draw 1 rfl (by decide +kernel) ?_ | refine WC.draw 2 rfl (by decide +kernel) ?_ | refine WC.draw 3 rfl (by decide +kernel) ?_ | refine WC.draw 4 rfl (by decide +kernel) ?_ | refine WC.draw 5 rfl (by decide +kernel) ?_ | refine WC.draw 6 rfl (by decide +kernel) ?_ | refine WC.draw 7 rfl (by decide +kernel) ?_ | refine WC.draw 8 rfl (by decide +kernel) ?_ | refine WC.draw 9 rfl (by decide +kernel) ?_ | refine WC.draw 10 rfl (by decide +kernel) ?_ | refine WC.draw 11 rfl (by decide +kernel) ?_ | refine WC.draw 12 rfl (by decide +kernel) ?_ | refine WC.draw 13 rfl (by decide +kernel) ?_ | refine WC.draw 14 rfl (by decide +kernel) ?_ | refine WC.draw 15 rfl (by decide +kernel) ?_ | refine WC.draw 16 rfl (by decide +kernel) ?_ | refine WC.draw 17 rfl (by decide +kernel) ?_ | refine WC.draw 18 rfl (by decide +kernel) ?_ | refine WC.draw 19 rfl (by decide +kernel) ?_ | refine WC.draw 20 rfl (by decide +kernel) ?_ | refine WC.draw 21 rfl (by decide +kernel) ?_ | refine WC.draw 22 rfl (by decide +kernel) ?_ | refine WC.draw 23 rfl (by decide +kernel) ?_ | refine WC.draw 24 rfl (by decide +kernel) ?_)); (repeat (refine WD.cons rfl (fun c h => by cases h) sq_EP4_1 ?_)); refine WD.nil ?_)); (try (refine st ?_; (repeat intro zzc)))))) | ((first | (refine iF 63 rfl ?_; refine w_callG Tryd.func63 ?_ (hs := figuresZ_any _ (by omega) _ _ _)) | (refine iF 27 rfl ?_; refine w_callG Tryd.func27 ?_ (hs := refQuoted_any _ (by omega) _ _ _)) | ((refine iDraw ?_; (first | refine WC.drawAll rfl (by decide +kernel) ?_ | refine WC.draw 1 rfl (by decide +kernel) ?_ | refine WC.draw 2 rfl (by decide +kernel) ?_ | refine WC.draw 3 rfl (by decide +kernel) ?_ | refine WC.draw 4 rfl (by decide +kernel) ?_ | refine WC.draw 5 rfl (by decide +kernel) ?_ | refine WC.draw 6 rfl (by decide +kernel) ?_ | refine WC.draw 7 rfl (by decide +kernel) ?_ | refine WC.draw 8 rfl (by decide +kernel) ?_ | refine WC.draw 9 rfl (by decide +kernel) ?_ | refine WC.draw 10 rfl (by decide +kernel) ?_ | refine WC.draw 11 rfl (by decide +kernel) ?_ | refine WC.draw 12 rfl (by decide +kernel) ?_ | refine WC.draw 13 rfl (by decide +kernel) ?_ | refine WC.draw 14 rfl (by decide +kernel) ?_ | refine WC.draw 15 rfl (by decide +kernel) ?_ | refine WC.draw 16 rfl (by decide +kernel) ?_ | refine WC.draw 17 rfl (by decide +kernel) ?_ | refine WC.draw 18 rfl (by decide +kernel) ?_ | refine WC.draw 19 rfl (by decide +kernel) ?_ | refine WC.draw 20 rfl (by decide +kernel) ?_ | refine WC.draw 21 rfl (by decide +kernel) ?_ | refine WC.draw 22 rfl (by decide +kernel) ?_ | refine WC.draw 23 rfl (by decide +kernel) ?_ | refine WC.draw 24 rfl (by decide +kernel) ?_)); (repeat (refine WD.cons rfl (fun c h => by cases h) sq_EP4_1 ?_)); refine WD.nil ?_)); (try (refine st ?_; (repeat intro zzc))))); (repeat ((first | (refine iF 63 rfl ?_; refine w_callG Tryd.func63 ?_ (hs := figuresZ_any _ (by omega) _ _ _)) | (refine iF 27 rfl ?_; refine w_callG Tryd.func27 ?_ (hs := refQuoted_any _ (by omega) _ _ _)) | ((refine iDraw ?_; (first | refine WC.drawAll rfl (by decide +kernel) ?_ | refine WC.draw 1 rfl (by decide +kernel) ?_ | refine WC.draw 2 rfl (by decide +kernel) ?_ | refine WC.draw 3 rfl (by decide +kernel) ?_ | refine WC.draw 4 rfl (by decide +kernel) ?_ | refine WC.draw 5 rfl (by decide +kernel) ?_ | refine WC.draw 6 rfl (by decide +kernel) ?_ | refine WC.draw 7 rfl (by decide +kernel) ?_ | refine WC.draw 8 rfl (by decide +kernel) ?_ | refine WC.draw 9 rfl (by decide +kernel) ?_ | refine WC.draw 10 rfl (by decide +kernel) ?_ | refine WC.draw 11 rfl (by decide +kernel) ?_ | refine WC.draw 12 rfl (by decide +kernel) ?_ | refine WC.draw 13 rfl (by decide +kernel) ?_ | refine WC.draw 14 rfl (by decide +kernel) ?_ | refine WC.draw 15 rfl (by decide +kernel) ?_ | refine WC.draw 16 rfl (by decide +kernel) ?_ | refine WC.draw 17 rfl (by decide +kernel) ?_ | refine WC.draw 18 rfl (by decide +kernel) ?_ | refine WC.draw 19 rfl (by decide +kernel) ?_ | refine WC.draw 20 rfl (by decide +kernel) ?_ | refine WC.draw 21 rfl (by decide +kernel) ?_ | refine WC.draw 22 rfl (by decide +kernel) ?_ | refine WC.draw 23 rfl (by decide +kernel) ?_ | refine WC.draw 24 rfl (by decide +kernel) ?_)); (repeat (refine WD.cons rfl (fun c h => by cases h) sq_EP4_1 ?_)); refine WD.nil ?_)); (try (refine st ?_; (repeat intro zzc))))); (repeat revert zzc); exact zzn.out) : G := h ⟨next⟩
theorem refPrint_any {a : Option Addr} {cap : Nat} {l : List Stp} (hok : ∀ x ∈ l, stpOk x ∧ x.k ≤ 65536 ∧ x.d.length ≤ 65536 ∧ x.p.length ≤ 65536) (hl : l.length ≤ 1000000) (w0 : World) (m : Mem) (H : SHeap) (hr : RowR w0 m H 3 a (l.map Stp.cs)) :
    Does Tryd.prog 38 #[.slice a l.length cap] w0 m H (Gives (str (printW l)) m H) := by
  refine Does.of_body (args := [.slice a l.length cap]) Tryd.func38 rfl Tryd.ntmps38 rfl ?_
  have hln : (l.map Stp.cs).length = l.length := by simp
  refine WC.newRow (T := 5) (sz := 1) ?_
  (try (refine st_EP4_1 ?_; intros))
  refine WC.loopH [(4, .int .i64 ((0) : Int)), (0, .slice a l.length cap), (3, .slice (none) (0) (0))] ?_ ?_ (fun j r ds m' H' => ∃ (i : Nat) (a9 : Option Addr) (c9 : Nat) (n9 : Nat) (O : List UInt8), j = l.length - i ∧ r = [(4, .int .i64 (i : Int)), (0, .slice a l.length cap), (3, .slice a9 n9 c9)] ∧ ds = [] ∧ m = m' ∧ H' = .row a9 c9 5 1 (bCs O) :: H ∧ (i ≤ l.length) ∧ (n9 = O.length) ∧ (O = printW (l.take i)) ∧ (O.length ≤ 1000000 * i)) (l.length - (0)) ⟨0, none, 0, 0, ([] : List UInt8), rfl, rfl, rfl, rfl, rfl, Nat.zero_le _, rfl, by rw [List.take_zero]; unfold printW; rfl, by simp⟩ ?_
  · (repeat (first | exact Env.Sub.nil | refine Env.Sub.cons rfl ?_))
  · exact zpk
  rintro j r ds m' H' ⟨i, a9, c9, n9, O, rfl, rfl, rfl, rfl, rfl, hi, hn9, hO, hOl⟩
  subst hn9
  have hbl := bCs_length O
  by_cases hlt : i < l.length
  · obtain ⟨x, hx, hget, htk, hmem, hdr⟩ := at_idx (f := Stp.cs) hlt
    have hr1 := hr.more (i := .row a9 c9 5 1 (bCs O))
    refine WC.rSome hr1 (by omega) ?_
    rintro a0 rfl
    obtain ⟨hxok, hk1, hd1, hp1⟩ := hok x hmem
    have hk0 : 0 ≤ x.k := by rcases hxok with ⟨h, _, _⟩ | ⟨h, _, _⟩ | ⟨h, _, _⟩ <;> omega
    have hdl := decL_length 8 x.k.toNat (by omega)
    have hqd := quotedW_length x.d
    have hqp := quotedW_length x.p
    have e0 : (x.cs)[0]? = some (.int .i64 x.k) := rfl
    have e1 : (x.cs)[1]? = some (str x.d) := rfl
    have e2 : (x.cs)[2]? = some (str x.p) := rfl
    have l61 : ([61] : List UInt8).length = 1 := rfl
    have l45 : ([45] : List UInt8).length = 1 := rfl
    have l43 : ([43] : List UInt8).length = 1 := rfl
    have a61 : ([61] ++ decL x.k.toNat).length = 1 + (decL x.k.toNat).length := by rw [List.length_append]; rfl
    have a45 : ([45] ++ quotedW x.d).length = 1 + (quotedW x.d).length := by rw [List.length_append]; rfl
    have a43 : ([43] ++ quotedW x.p).length = 1 + (quotedW x.p).length := by rw [List.length_append]; rfl
    refine WC.seq ?_
    refine WC.seq (WC.region ?_)
    refine sp ?_
    refine WQ.norm ?_
    refine WC.yes rfl (by omega) ?_
    refine WC.skip ?_
    refine WQ.norm ?_
    refine WC.seq (WC.block ?_)
    refine WC.seq ?_
    refine WC.seq (WC.region ?_)
    refine sp ?_
    refine WQ.norm ?_
    refine WC.join (fun r' ds' m' H' => ∃ (a8 : Option Addr) (c8 : Nat) (O2 : List UInt8), r' = [(4, .int .i64 (i : Int)), (0, .slice (some a0) l.length cap), (3, .slice a8 O2.length c8)] ∧ ds' = [] ∧ m' = m ∧ H' = .row a8 c8 5 1 (bCs O2) :: H ∧ printW (l.take (i + 1)) = O2 ++ stpW x ∧ O2.length ≤ 1000000 * i + 1) ?_ ?_
    · rcases (show i = 0 ∨ 0 < i by omega) with hi0 | hi0
      · have hO0 : O = [] := by rw [hO, hi0, List.take_zero]; unfold printW; rfl
        have hpx : printW (l.take (i + 1)) = O ++ stpW x := by rw [htk, hO0, hi0, List.take_zero]; unfold printW; rfl
        have hO2 : O.length ≤ 1000000 * i + 1 := by omega
        (try (refine st_EP4_1 ?_; intros))
        exact WQ.join ⟨a9, c9, O, rfl, rfl, rfl, rfl, hpx, hO2⟩ zsb zpk
      · have hpx : printW (l.take (i + 1)) = O ++ [32] ++ stpW x := by
          rw [htk, printW_snoc _ _ (by intro h; have := congrArg List.length h; rw [List.length_take, List.length_nil] at this; omega), ← hO]
        have e32 : bCs O ++ [[Value.int .u8 32]] = bCs (O ++ [32]) := by rw [← bCs_cat]; rfl
        have el32 : (bCs O).length + 1 = (O ++ [32]).length := by rw [hbl]; simp
        have hO2 : (O ++ [32]).length ≤ 1000000 * i + 1 := by rw [← el32]; omega
        (refine st_EP4_1 ?_; intros; rename_i qb ax cx)
        rw [e32, el32]
        exact WQ.join ⟨ax, cx, O ++ [32], rfl, rfl, rfl, rfl, hpx, hO2⟩ zsb zpk
    · clear hr1
      rintro _ _ _ _ ⟨b9, d9, O2, rfl, rfl, rfl, rfl, hpx, hO2⟩
      have hbl2 := bCs_length O2
      have hr2 := hr.more (i := .row b9 d9 5 1 (bCs O2))
      rcases hxok with ⟨h1, h2, h3⟩ | ⟨h1, h2, h3⟩ | ⟨h1, h2, h3⟩
      · have hkp : 0 < x.k := by omega
        have hs : stpW x = [61] ++ decL x.k.toNat := by unfold stpW; rw [if_pos h1]; rfl
        have el : (bCs O2).length + ([61] ++ decL x.k.toNat).length = (O2 ++ stpW x).length := by rw [bCs_length, hs]; simp only [List.length_append]
        have em : bCs O2 ++ List.map (fun b => [Value.int .u8 (b.toNat : Int)]) ([61] ++ decL x.k.toNat) = bCs (O2 ++ stpW x) := by rw [hs, ← bCs_cat]; rfl
        (refine st_EP4_1 ?_; intros; rename_i a8 c8)
        rw [em, el]
        refine WQ.next (l.length - (i + 1)) ⟨i + 1, a8, c8, (O2 ++ stpW x).length, O2 ++ stpW x, rfl, rfl, rfl, rfl, rfl, ?_, ?_, ?_, ?_⟩ (by omega) zsb zpk
        · omega
        · rfl
        · exact hpx.symm
        · rw [List.length_append, hs]; omega
      · have hkp : ¬ 0 < x.k := by omega
        have hs : stpW x = [45] ++ quotedW x.d := by unfold stpW; rw [if_neg (by omega), if_pos h2]; rfl
        have el : (bCs O2).length + ([45] ++ quotedW x.d).length = (O2 ++ stpW x).length := by rw [bCs_length, hs]; simp only [List.length_append]
        have em : bCs O2 ++ List.map (fun b => [Value.int .u8 (b.toNat : Int)]) ([45] ++ quotedW x.d) = bCs (O2 ++ stpW x) := by rw [hs, ← bCs_cat]; rfl
        (refine st_EP4_1 ?_; intros; rename_i a8 c8)
        rw [em, el]
        refine WQ.next (l.length - (i + 1)) ⟨i + 1, a8, c8, (O2 ++ stpW x).length, O2 ++ stpW x, rfl, rfl, rfl, rfl, rfl, ?_, ?_, ?_, ?_⟩ (by omega) zsb zpk
        · omega
        · rfl
        · exact hpx.symm
        · rw [List.length_append, hs]; omega
      · have hkp : ¬ 0 < x.k := by omega
        have hs : stpW x = [43] ++ quotedW x.p := by unfold stpW; rw [if_neg (by omega), if_neg (by rw [h2]; exact fun h => h rfl)]; rfl
        have el : (bCs O2).length + ([43] ++ quotedW x.p).length = (O2 ++ stpW x).length := by rw [bCs_length, hs]; simp only [List.length_append]
        have em : bCs O2 ++ List.map (fun b => [Value.int .u8 (b.toNat : Int)]) ([43] ++ quotedW x.p) = bCs (O2 ++ stpW x) := by rw [hs, ← bCs_cat]; rfl
        (refine st_EP4_1 ?_; intros; rename_i a8 c8)
        rw [em, el]
        refine WQ.next (l.length - (i + 1)) ⟨i + 1, a8, c8, (O2 ++ stpW x).length, O2 ++ stpW x, rfl, rfl, rfl, rfl, rfl, ?_, ?_, ?_, ?_⟩ (by omega) zsb zpk
        · omega
        · rfl
        · exact hpx.symm
        · rw [List.length_append, hs]; omega
  · obtain rfl : i = l.length := by omega
    rw [List.take_length] at hO
    (try (refine st_EP4_1 ?_; intros))
    refine WL.rowStr (s := O) rfl rfl zhs rfl rfl rfl rfl rfl ?_
    rw [hO]
    (try (refine st_EP4_1 ?_; intros))
    exact q_fin0 (H0 := H) (Gives.mk rfl) (hd := zpk)
end Go.Proofs.YtelgegefmjlimaaDoor

/-
  What Print writes, Read reads back, in plain. No condition.
-/
namespace Go.Eng
open Go
theorem at_drop {s : List UInt8} {a : Nat} {c : UInt8} {r : List UInt8} (h : s.drop a = c :: r) : a < s.length ∧ gb s a = c.toNat ∧ s.drop (a + 1) = r := by
  have h1 : a < s.length := by
    rcases Nat.lt_or_ge a s.length with h1 | h1
    · exact h1
    · rw [List.drop_eq_nil_of_le h1] at h; cases h
  rw [List.drop_eq_getElem_cons h1] at h
  injection h with h2 h3
  refine ⟨h1, ?_, h3⟩
  unfold gb
  rw [List.getD_eq_getElem?_getD, List.getElem?_eq_getElem h1, Option.getD_some, h2]
theorem drop_app {s X B : List UInt8} {a : Nat} (h : s.drop a = X ++ B) : s.drop (a + X.length) = B := by
  rw [← List.drop_drop, h, List.drop_left]
theorem sub_app {s X B : List UInt8} {a : Nat} (h : s.drop a = X ++ B) : sub s a (a + X.length) = X := by
  unfold sub
  rw [h, show a + X.length - a = X.length by omega, List.take_left]
theorem le_app {s X B : List UInt8} {a : Nat} (ha : a ≤ s.length) (h : s.drop a = X ++ B) : a + X.length ≤ s.length := by
  have := congrArg List.length h
  rw [List.length_drop, List.length_append] at this; omega
theorem digF_run {s : List UInt8} : ∀ (X B : List UInt8) (f n a : Nat), s.drop a = X ++ B → (∀ c ∈ X, 0 ≤ hexV c) → X.length ≤ f → (∀ c, B.head? = some c → hexV c < 0) →
    digF s f n a = (X.length, X.foldl (fun n c => 16 * n + (hexV c).toNat) n, a + X.length)
  | [], B, 0, n, a, h, _, _, _ => rfl
  | [], B, f + 1, n, a, h, _, _, hB => by
    rw [digF, if_neg]
    · rfl
    · rintro ⟨h1, h2⟩
      rw [List.nil_append, List.drop_eq_getElem_cons h1] at h
      have h3 := hB (s[a]) (by rw [← h]; rfl)
      have : UInt8.ofNat (gb s a) = s[a] := by unfold gb; rw [List.getD_eq_getElem?_getD, List.getElem?_eq_getElem h1]; simp
      rw [this] at h2
      omega
  | c :: X, B, 0, n, a, h, _, hf, _ => by simp at hf
  | c :: X, B, f + 1, n, a, h, hX, hf, hB => by
    obtain ⟨h1, h2, h3⟩ := at_drop h
    have e : UInt8.ofNat (gb s a) = c := by rw [h2]; simp
    have hc := hX c List.mem_cons_self
    rw [digF, e, if_pos ⟨h1, hc⟩, digF_run X B f _ (a + 1) h3 (fun q hq => hX q (List.mem_cons_of_mem _ hq)) (by simpa using hf) hB]
    have e2 : a + 1 + X.length = a + (c :: X).length := by rw [List.length_cons]; omega
    rw [e2]; rfl
theorem hexV_hexB {d : Nat} (h : d < 16) : hexV (hexB d) = (d : Int) := by
  have all : ∀ i : Fin 16, hexV (hexB i.1) = (i.1 : Int) := by decide
  exact all ⟨d, h⟩
theorem hexL_ok (n : Nat) : (∀ c ∈ hexL n, 0 ≤ hexV c) ∧ (hexL n).foldl (fun n c => 16 * n + (hexV c).toNat) 0 = n ∧ 1 ≤ (hexL n).length := by
  rw [hexL]
  by_cases h : n < 16
  · rw [if_pos h]
    have e := hexV_hexB h
    refine ⟨fun c hc => ?_, ?_, Nat.le_refl _⟩
    · rw [List.mem_singleton] at hc; subst hc; omega
    · simp [e]
  · rw [if_neg h]
    have e := hexV_hexB (show n % 16 < 16 by omega)
    obtain ⟨i1, i2, i3⟩ := hexL_ok (n / 16)
    refine ⟨fun c hc => ?_, ?_, by rw [List.length_append]; omega⟩
    · rcases List.mem_append.1 hc with hc | hc
      · exact i1 c hc
      · rw [List.mem_singleton] at hc; subst hc; omega
    · rw [List.foldl_append, i2]
      simp only [List.foldl_cons, List.foldl_nil, e]
      omega
termination_by n
theorem numE_run {s : List UInt8} : ∀ (X B : List UInt8) (f a : Nat), s.drop a = X ++ B → (∀ c ∈ X, 48 ≤ c.toNat ∧ c.toNat ≤ 57) → X.length < f → (∀ c, B.head? = some c → ¬ (48 ≤ c.toNat ∧ c.toNat ≤ 57)) → numE s f a = a + X.length
  | _, B, 0, a, _, _, hf, _ => absurd hf (Nat.not_lt_zero _)
  | [], B, f + 1, a, h, _, _, hB => by
    rw [numE, if_neg]
    · rfl
    · rintro ⟨h1, h2⟩
      rw [List.nil_append, List.drop_eq_getElem_cons h1] at h
      have h3 := hB (s[a]) (by rw [← h]; rfl)
      have : gb s a = (s[a]).toNat := by unfold gb; rw [List.getD_eq_getElem?_getD, List.getElem?_eq_getElem h1]; rfl
      rw [this] at h2
      exact h3 h2
  | c :: X, B, f + 1, a, h, hX, hf, hB => by
    obtain ⟨h1, h2, h3⟩ := at_drop h
    have hc := hX c List.mem_cons_self
    rw [numE, if_pos ⟨h1, by rw [h2]; exact hc⟩, numE_run X B f (a + 1) h3 (fun q hq => hX q (List.mem_cons_of_mem _ hq)) (by simpa using hf) hB, List.length_cons]
    omega
theorem decB_nat {d : Nat} (h : d < 10) : (decB d).toNat = 48 + d := by
  have := decB_int h; omega
theorem decL_ok (n : Nat) : (∀ c ∈ decL n, 48 ≤ c.toNat ∧ c.toNat ≤ 57) ∧ decV (decL n) = n ∧ (0 < n → ∃ c r, decL n = c :: r ∧ 49 ≤ c.toNat ∧ c.toNat ≤ 57) := by
  rw [decL]
  by_cases h : n < 10
  · rw [if_pos h]
    have e := decB_nat h
    refine ⟨fun c hc => ?_, ?_, fun h0 => ⟨_, _, rfl, by omega, by omega⟩⟩
    · rw [List.mem_singleton] at hc; subst hc; omega
    · simp only [decV, List.foldl_cons, List.foldl_nil, e]; omega
  · rw [if_neg h]
    have e := decB_nat (show n % 10 < 10 by omega)
    obtain ⟨i1, i2, i3⟩ := decL_ok (n / 10)
    refine ⟨fun c hc => ?_, ?_, fun _ => ?_⟩
    · rcases List.mem_append.1 hc with hc | hc
      · exact i1 c hc
      · rw [List.mem_singleton] at hc; subst hc; omega
    · rw [decV_snoc, i2, e]; omega
    · obtain ⟨c, r, hr, h1, h2⟩ := i3 (by omega)
      exact ⟨c, r ++ _, by rw [hr]; rfl, h1, h2⟩
termination_by n
theorem numF_decL {s B : List UInt8} {a n fr to : Nat} (ha : a ≤ s.length) (h : s.drop a = decL n ++ B) (hn : 0 < n) (hB : ∀ c, B.head? = some c → ¬ (48 ≤ c.toNat ∧ c.toNat ≤ 57)) (h1 : n ≤ 65536 - fr) (h2 : n ≤ 65536 - to) :
    numF s a fr to = .yes (a + (decL n).length) n := by
  obtain ⟨i1, i2, i3⟩ := decL_ok n
  obtain ⟨c, r, hr, h3, h4⟩ := i3 hn
  have hle := le_app ha h
  have hE := numE_run (decL n) B (s.length + 1) a h i1 (by omega) hB
  have h5 := h
  rw [hr] at h5
  obtain ⟨h6, h7, _⟩ := at_drop h5
  unfold numF
  rw [if_pos ⟨h6, by omega, by omega⟩, hE, sub_app h, i2, if_neg (by omega)]
/-- what follows a piece's text within quotes -/
theorem quoF_piece {s t B : List UInt8} {f a i : Nat} (hi : i < t.length) (h : s.drop a = pieceW t (readP t i) ++ B) :
    quoF s (f + 1) a (t.take i) = quoF s f (a + (pieceW t (readP t i)).length) (t.take (i + (readP t i).w)) := by
  have hw := readP_w hi
  have hok := readP_ok hi
  have hat := readP_at t i
  have hrl := okr_le hok
  have htk : t.take (i + (readP t i).w) = t.take i ++ (t.drop i).take (readP t i).w := by rw [List.take_add]
  rcases readP_cases hi with ⟨e1, e2, e3⟩ | ⟨e1, e2, e3⟩
  · -- a broken byte
    generalize readP t i = p at *
    have hp : pieceW t p = [92, 120, hexB (gb t i / 16), hexB (gb t i % 16)] := by unfold pieceW; rw [if_pos e1, hat]
    have hg := gb_lt t i
    have v1 := hexV_hexB (show gb t i / 16 < 16 by omega)
    have v2 := hexV_hexB (show gb t i % 16 < 16 by omega)
    rw [hp] at h ⊢
    obtain ⟨q1, q2, q3⟩ := at_drop h
    obtain ⟨q4, q5, q6⟩ := at_drop q3
    have hD : digF s 2 0 (a + 1 + 1) = (2, gb t i, a + 1 + 1 + 2) := by
      obtain ⟨q7, q8, q9⟩ := at_drop q6
      obtain ⟨q10, q11, q12⟩ := at_drop q9
      have c1 : UInt8.ofNat (gb s (a + 1 + 1)) = hexB (gb t i / 16) := by rw [q8]; simp
      have c2 : UInt8.ofNat (gb s (a + 1 + 1 + 1)) = hexB (gb t i % 16) := by rw [q11]; simp
      have e3 : 16 * (16 * 0 + ((gb t i / 16 : Nat) : Int).toNat) + ((gb t i % 16 : Nat) : Int).toNat = gb t i := by omega
      rw [digF, c1, if_pos ⟨q7, by omega⟩, digF, c2, if_pos ⟨q10, by omega⟩, digF, v1, v2, e3]
    have c92 : gb s a = 92 := q2
    have c120 : gb s (a + 1) = 120 := q5
    have hP : partF s (a + 1) = .yes (a + 1 + 1 + 2) [UInt8.ofNat (gb t i)] := by
      unfold partF
      rw [if_neg (by rintro ⟨_, h | h⟩ <;> omega), if_pos ⟨q4, c120⟩, hD]; rfl
    have et : (t.drop i).take 1 = [UInt8.ofNat (gb t i)] := by
      rw [List.drop_eq_getElem_cons hi]
      have : UInt8.ofNat (gb t i) = t[i] := by unfold gb; rw [List.getD_eq_getElem?_getD, List.getElem?_eq_getElem hi]; simp
      rw [this]; rfl
    rw [quoF, if_neg (by rintro ⟨_, h⟩; omega), if_pos ⟨q1, c92⟩, hP, htk, e2, et]
    rfl
  · have hform : (t.drop i).take (readP t i).w = fmb (readP t i).r := by
      have hb : dl (t.drop i) = ((readP t i).r, (readP t i).w) := by rw [readP_w_eq, readP_r_eq]
      rcases dl_cases (t.drop i) (by simp; omega) with ⟨_, h2, h3⟩ | ⟨h2, _⟩
      · rw [hb] at h3 h2
        rw [e2]
        exact (begins_iff _ _ hrl).1 h3
      · exfalso
        unfold readP at e1
        rw [if_pos h2] at e1
        cases e1
    generalize readP t i = p at *
    have hrn : rn (p.r : Int) = p.r := rn_nat hok
    rw [htk, hform]
    by_cases h34 : p.r = 34 ∨ p.r = 92
    · have hp : pieceW t p = [92, UInt8.ofNat p.r] := by unfold pieceW; rw [if_neg (by rw [e1]; decide), if_pos h34]
      rw [hp] at h ⊢
      obtain ⟨q1, q2, q3⟩ := at_drop h
      obtain ⟨q4, q5, q6⟩ := at_drop q3
      have c92 : gb s a = 92 := q2
      have c2 : gb s (a + 1) = p.r := by rw [q5, UInt8.toNat_ofNat']; omega
      have hP : partF s (a + 1) = .yes (a + 1 + 1) [UInt8.ofNat p.r] := by
        unfold partF
        rw [if_pos ⟨q4, by rw [c2]; exact h34⟩, c2]
      have ef : fmb p.r = [UInt8.ofNat p.r] := by unfold fmb fm; rw [if_pos (by omega)]; rfl
      rw [quoF, if_neg (by rintro ⟨_, h⟩; omega), if_pos ⟨q1, c92⟩, hP, ef]
      rfl
    · by_cases h32 : 32 ≤ p.r ∧ p.r ≤ 126
      · have hp : pieceW t p = [UInt8.ofNat p.r] := by unfold pieceW; rw [if_neg (by rw [e1]; decide), if_neg h34, if_pos h32]
        rw [hp] at h ⊢
        obtain ⟨q1, q2, q3⟩ := at_drop h
        have c2 : gb s a = p.r := by rw [q2, UInt8.toNat_ofNat']; omega
        have ef : fmb p.r = [UInt8.ofNat p.r] := by unfold fmb fm; rw [if_pos (by omega)]; rfl
        rw [quoF, if_neg (by rintro ⟨_, h⟩; exact h34 (.inl (by omega))), if_neg (by rintro ⟨_, h⟩; exact h34 (.inr (by omega))), if_pos ⟨q1, by omega⟩, c2, ef]
        rfl
      · have hp : pieceW t p = [92, 123] ++ hexL p.r ++ [125] := by unfold pieceW; rw [if_neg (by rw [e1]; decide), if_neg h34, if_neg h32]
        rw [hp] at h ⊢
        have h' : s.drop a = 92 :: 123 :: (hexL p.r ++ (125 :: B)) := by rw [h]; simp
        obtain ⟨q1, q2, q3⟩ := at_drop h'
        obtain ⟨q4, q5, q6⟩ := at_drop q3
        obtain ⟨x1, x2, x3⟩ := hexL_ok p.r
        have x4 := hexL_length 5 p.r (by omega)
        have hD := digF_run (hexL p.r) (125 :: B) 6 0 (a + 1 + 1) q6 x1 x4 (fun c hc => by cases hc; decide)
        rw [x2] at hD
        obtain ⟨q7, q8, q9⟩ := at_drop (drop_app q6)
        have c92 : gb s a = 92 := q2
        have c123 : gb s (a + 1) = 123 := q5
        have c125 : gb s (a + 1 + 1 + (hexL p.r).length) = 125 := q8
        have hP : partF s (a + 1) = .yes (a + 1 + 1 + (hexL p.r).length + 1) (fmb p.r) := by
          unfold partF
          rw [if_neg (by rintro ⟨_, h | h⟩ <;> omega), if_neg (by rintro ⟨_, h⟩; omega), if_pos ⟨q4, c123⟩, hD, if_neg, hrn]
          rintro (h | h)
          · simp only at h; omega
          · exact h ⟨q7, c125⟩
        have ee : a + 1 + 1 + (hexL p.r).length + 1 = a + ([92, 123] ++ hexL p.r ++ [125]).length := by simp only [List.length_append, List.length_cons, List.length_nil]; omega
        rw [quoF, if_neg (by rintro ⟨_, h⟩; omega), if_pos ⟨q1, c92⟩, hP, ee]
theorem quoF_pieces {s t B : List UInt8} : ∀ (d f a i : Nat), t.length - i ≤ d → d < f → i ≤ t.length → s.drop a = piecesW t (from_ t i) ++ (34 :: B) →
    quoF s f a (t.take i) = .yes (a + (piecesW t (from_ t i)).length + 1) t
  | d, 0, a, i, _, hf, _, _ => absurd hf (Nat.not_lt_zero _)
  | d, f + 1, a, i, hd, hf, hi, h => by
    by_cases hlt : i < t.length
    · have hw := readP_w hlt
      rw [from_cons hlt] at h ⊢
      have e : piecesW t (readP t i :: from_ t (i + (readP t i).w)) = pieceW t (readP t i) ++ piecesW t (from_ t (i + (readP t i).w)) := by unfold piecesW; rw [List.flatMap_cons]
      rw [e] at h ⊢
      rw [List.append_assoc] at h
      cases d with
      | zero => omega
      | succ d =>
        rw [quoF_piece hlt h, quoF_pieces d f _ (i + (readP t i).w) (by omega) (by omega) hw.2.2 (drop_app h), List.length_append]
        congr 1
        omega
    · obtain rfl : i = t.length := by omega
      rw [from_nil hlt] at h ⊢
      have h' : s.drop a = 34 :: B := h
      obtain ⟨q1, q2, q3⟩ := at_drop h'
      have c34 : gb s a = 34 := q2
      rw [quoF, if_pos ⟨q1, c34⟩, List.take_length]
      rfl
theorem qokF_quotedW {s t B : List UInt8} {a room : Nat} (ha : a ≤ s.length) (h : s.drop a = quotedW t ++ B) (ht : t ≠ []) (hr : t.length ≤ room) (hl : t.length ≤ s.length) :
    qokF s a room = .yes (a + (quotedW t).length) t := by
  have hs := sub_app h
  have h' : s.drop a = 34 :: (piecesW t (pieces t) ++ (34 :: B)) := by rw [h]; unfold quotedW; simp
  obtain ⟨q1, q2, q3⟩ := at_drop h'
  have c34 : gb s a = 34 := q2
  have hq : quotF s a = .yes (a + (quotedW t).length) t := by
    unfold quotF
    rw [if_pos ⟨q1, c34⟩]
    have := quoF_pieces (s := s) (t := t) (B := B) t.length (s.length + 1) (a + 1) 0 (by omega) (by omega) (Nat.zero_le _) q3
    rw [List.take_zero] at this
    rw [this]
    have e : (quotedW t).length = (piecesW t (pieces t)).length + 2 := by unfold quotedW; simp only [List.length_append, List.length_cons, List.length_nil]; omega
    rw [e]
    congr 1
    show a + 1 + (piecesW t (pieces t)).length + 1 = _
    omega
  unfold qokF
  rw [hq]
  simp only
  rw [if_neg]
  rintro (h1 | h1 | h1)
  · exact ht h1
  · exact h1 hs.symm
  · omega
theorem piecesW_ge (t : List UInt8) : ∀ (d i : Nat), t.length - i ≤ d → t.length - i ≤ (piecesW t (from_ t i)).length
  | d, i, hd => by
    by_cases hi : i < t.length
    · have hw := readP_w hi
      rw [from_cons hi]
      have e : piecesW t (readP t i :: from_ t (i + (readP t i).w)) = pieceW t (readP t i) ++ piecesW t (from_ t (i + (readP t i).w)) := by unfold piecesW; rw [List.flatMap_cons]
      rw [e, List.length_append]
      cases d with
      | zero => omega
      | succ d =>
        have h1 := piecesW_ge t d (i + (readP t i).w) (by omega)
        have h2 : (readP t i).w ≤ (pieceW t (readP t i)).length := by
          have hok := readP_ok hi
          rcases readP_cases hi with ⟨e1, e2, e3⟩ | ⟨e1, e2, e3⟩
          · rw [e2]; unfold pieceW; rw [if_pos e1]; simp
          · rw [e2]
            unfold pieceW
            rw [if_neg (by rw [e1]; decide)]
            have hwd := wd_pos (readP t i).r
            split
            · next h => unfold wd; rw [if_pos (by omega)]; simp
            · split
              · next h => unfold wd; rw [if_pos (by omega)]; simp
              · have := (hexL_ok (readP t i).r).2.2
                simp only [List.length_append, List.length_cons, List.length_nil]; omega
        omega
    · omega
theorem quotedW_len (t : List UInt8) : t.length + 2 ≤ (quotedW t).length := by
  have := piecesW_ge t t.length 0 (by omega)
  unfold quotedW
  simp only [List.length_append, List.length_cons, List.length_nil]
  have e : piecesW t (from_ t 0) = piecesW t (pieces t) := rfl
  rw [e] at this
  omega
theorem stepF_stpW {s B : List UInt8} {a fr to : Nat} {x : Stp} (ha : a ≤ s.length) (h : s.drop a = stpW x ++ B) (hx : stpOk x) (hB : B = [] ∨ ∃ r, B = 32 :: r) (h1 : fr + x.k.toNat + x.d.length ≤ 65536) (h2 : to + x.k.toNat + x.p.length ≤ 65536) :
    stepF s a fr to = .yes (a + (stpW x).length) x := by
  have hB2 : ∀ c, B.head? = some c → ¬ (48 ≤ c.toNat ∧ c.toNat ≤ 57) := by
    rcases hB with rfl | ⟨r, rfl⟩
    · intro c hc; cases hc
    · intro c hc; cases hc; decide
  obtain ⟨k, d, p⟩ := x
  rcases hx with ⟨g1, g2, g3⟩ | ⟨g1, g2, g3⟩ | ⟨g1, g2, g3⟩
  · simp only at g1 g2 g3 h1 h2
    subst g2 g3
    have e : stpW ⟨k, [], []⟩ = 61 :: decL k.toNat := by unfold stpW; rw [if_pos g1]
    rw [e] at h ⊢
    obtain ⟨q1, q2, q3⟩ := at_drop (show s.drop a = 61 :: (decL k.toNat ++ B) from h)
    have c61 : gb s a = 61 := q2
    simp only [List.length_nil] at h1 h2
    have := numF_decL (fr := fr) (to := to) q1 q3 (by omega) hB2 (by omega) (by omega)
    unfold stepF
    rw [if_pos ⟨q1, c61⟩, this, List.length_cons]
    simp only
    rw [Int.toNat_of_nonneg (by omega)]
    congr 1; omega
  · simp only at g1 g2 g3 h1 h2
    subst g1 g3
    have e : stpW ⟨0, d, []⟩ = 45 :: quotedW d := by unfold stpW; rw [if_neg (Int.lt_irrefl 0), if_pos g2]
    have hlen := le_app ha h
    have hql := quotedW_len d
    rw [e] at h hlen ⊢
    rw [List.length_cons] at hlen
    obtain ⟨q1, q2, q3⟩ := at_drop (show s.drop a = 45 :: (quotedW d ++ B) from h)
    have c45 : gb s a = 45 := q2
    simp only [List.length_nil] at h1 h2
    have := qokF_quotedW (room := 65536 - fr) q1 q3 g2 (by simp only [Int.toNat_zero] at h1; omega) (by omega)
    unfold stepF
    rw [if_neg (by rintro ⟨_, h⟩; omega), if_pos ⟨q1, c45⟩, this, List.length_cons]
    simp only
    congr 1; omega
  · simp only at g1 g2 g3 h1 h2
    subst g1 g2
    have e : stpW ⟨0, [], p⟩ = 43 :: quotedW p := by unfold stpW; rw [if_neg (Int.lt_irrefl 0), if_neg (fun h => h rfl)]
    have hlen := le_app ha h
    have hql := quotedW_len p
    rw [e] at h hlen ⊢
    rw [List.length_cons] at hlen
    obtain ⟨q1, q2, q3⟩ := at_drop (show s.drop a = 43 :: (quotedW p ++ B) from h)
    have c43 : gb s a = 43 := q2
    simp only [List.length_nil] at h1 h2
    have := qokF_quotedW (room := 65536 - to) q1 q3 g3 (by simp only [Int.toNat_zero] at h2; omega) (by omega)
    unfold stepF
    rw [if_neg (by rintro ⟨_, h⟩; omega), if_neg (by rintro ⟨_, h⟩; omega), if_pos ⟨q1, c43⟩, this, List.length_cons]
    simp only
    congr 1; omega
theorem stpW_pos (x : Stp) : 1 ≤ (stpW x).length := by
  unfold stpW
  split
  · simp
  · split <;> simp
/-- the sums of what a change takes and makes -/
def frS (l : List Stp) : Nat := (l.map fun x => x.k.toNat + x.d.length).sum
def toS (l : List Stp) : Nat := (l.map fun x => x.k.toNat + x.p.length).sum
theorem printW_cons (x : Stp) (l : List Stp) : printW (x :: l) = stpW x ++ (if l = [] then [] else 32 :: printW l) := by
  cases l with
  | nil => rw [if_pos rfl, List.append_nil]; rfl
  | cons y l => rw [if_neg (by simp), printW]; simp
theorem readF_print {s : List UInt8} : ∀ (l done : List Stp) (f a fr to : Nat), (∀ x ∈ l, stpOk x) → l.length < f → fr + frS l ≤ 65536 → to + toS l ≤ 65536 → a ≤ s.length →
    s.drop a = (if done = [] ∨ l = [] then [] else [32]) ++ printW l → readF s f a fr to done = .yes s.length (done ++ l)
  | _, done, 0, a, fr, to, _, hf, _, _, _, _ => absurd hf (Nat.not_lt_zero _)
  | [], done, f + 1, a, fr, to, _, _, _, _, ha, h => by
    rw [if_pos (.inr rfl)] at h
    have : a = s.length := by
      have h2 := congrArg List.length h
      rw [List.length_drop] at h2
      simp [printW] at h2
      omega
    subst this
    rw [readF, if_neg (Nat.lt_irrefl _), List.append_nil]
  | x :: l, done, f + 1, a, fr, to, hok, hf, h1, h2, ha, h => by
    simp only [frS, toS, List.map_cons, List.sum_cons] at h1 h2
    have hB : (if l = [] then ([] : List UInt8) else 32 :: printW l) = [] ∨ ∃ r, (if l = [] then ([] : List UInt8) else 32 :: printW l) = 32 :: r := by
      by_cases hl : l = []
      · exact .inl (if_pos hl)
      · exact .inr ⟨_, if_neg hl⟩
    have hp := stpW_pos x
    have key : ∃ a1, a1 = (if done = [] then a else a + 1) ∧ a1 ≤ s.length ∧ a < s.length ∧ ¬ (done ≠ [] ∧ gb s a ≠ 32) ∧ s.drop a1 = stpW x ++ (if l = [] then [] else 32 :: printW l) := by
      by_cases hd : done = []
      · rw [if_pos (.inl hd), List.nil_append, printW_cons] at h
        refine ⟨a, (if_pos hd).symm, ha, ?_, fun h => h.1 hd, h⟩
        have := le_app ha h
        omega
      · rw [if_neg (by simp [hd]), printW_cons] at h
        obtain ⟨q1, q2, q3⟩ := at_drop (show s.drop a = 32 :: (stpW x ++ _) from h)
        exact ⟨a + 1, (if_neg hd).symm, q1, q1, fun h => h.2 q2, q3⟩
    obtain ⟨a1, e1, g1, g2, g3, g4⟩ := key
    have hst := stepF_stpW g1 g4 (hok x List.mem_cons_self) hB (fr := fr) (to := to) (by omega) (by omega)
    rw [readF, if_pos g2, if_neg g3, ← e1, hst]
    simp only
    have := readF_print (s := s) l (done ++ [x]) f (a1 + (stpW x).length) (fr + x.k.toNat + x.d.length) (to + x.k.toNat + x.p.length) (fun y hy => hok y (List.mem_cons_of_mem _ hy)) (by simpa using hf) (by rw [frS]; omega) (by rw [toS]; omega) (le_app g1 g4) (by
      rw [drop_app g4]
      by_cases hl : l = []
      · rw [if_pos hl, if_pos (.inr hl), hl]; simp [printW]
      · rw [if_neg hl, if_neg (by simp [hl])]; rfl)
    rw [this, List.append_assoc]; rfl
end Go.Eng

/-
  Contracts of the library, laid at this seat by the shelf's own tools. No condition.
-/
namespace Go.Proofs.YtelgegefmjlimaaDoor
open Go Go.Shelf Go.Proofs
set_option linter.all false
def sh_lays156_ren : Go.Shelf.Ren := ⟨fun | 156 => 62 | 165 => 83 | 166 => 79 | 169 => 82 | 240 => 92 | 241 => 95 | 276 => 108 | 277 => 110 | n => n, fun | 31 => 73 | 9 => 9 | 3 => 3 | 4 => 4 | 0 => 0 | 20 => 20 | 72 => 138 | 76 => 132 | 70 => 136 | 37 => 46 | 75 => 131 | 127 => 150 | 164 => 166 | 5 => 5 | 80 => 57 | n => n, fun | n => n⟩
theorem sh_lays156 : Go.Proofs.Lays.n156 Tryd.prog sh_lays156_ren := {
  mixed := by kernel_rfl
  f156 := Tryd.func62.trans (congrArg some (by kernel_rfl))
  f165 := Tryd.func83.trans (congrArg some (by kernel_rfl))
  f166 := Tryd.func79.trans (congrArg some (by kernel_rfl))
  f169 := Tryd.func82.trans (congrArg some (by kernel_rfl))
  f240 := Tryd.func92.trans (congrArg some (by kernel_rfl))
  f241 := Tryd.func95.trans (congrArg some (by kernel_rfl))
  f276 := Tryd.func108.trans (congrArg some (by kernel_rfl))
  f277 := Tryd.func110.trans (congrArg some (by kernel_rfl))
  t0 := Tryd.underlying0
  a0 := Tryd.isAgg0
  z0 := Tryd.sizeOf0
  v0 := Tryd.zeroValue0
  t3 := Tryd.underlying3
  a3 := Tryd.isAgg3
  z3 := Tryd.sizeOf3
  v3 := Tryd.zeroValue3
  t4 := Tryd.underlying4
  a4 := Tryd.isAgg4
  z4 := Tryd.sizeOf4
  v4 := Tryd.zeroValue4
  t9 := Tryd.underlying9
  a9 := Tryd.isAgg9
  z9 := Tryd.sizeOf9
  v9 := Tryd.zeroValue9
  t20 := Tryd.underlying20
  a20 := Tryd.isAgg20
  z20 := Tryd.sizeOf20
  v20 := Tryd.zeroValue20
  t31 := Tryd.underlying73
  a31 := Tryd.isAgg73
  z31 := Tryd.sizeOf73
  v31 := Tryd.zeroValue73
  t37 := Tryd.underlying46
  a37 := Tryd.isAgg46
  z37 := Tryd.sizeOf46
  v37 := Tryd.zeroValue46
  t70 := Tryd.underlying136
  a70 := Tryd.isAgg136
  z70 := Tryd.sizeOf136
  v70 := Tryd.zeroValue136
  t72 := Tryd.underlying138
  a72 := Tryd.isAgg138
  z72 := Tryd.sizeOf138
  v72 := Tryd.zeroValue138
  t75 := Tryd.underlying131
  a75 := Tryd.isAgg131
  z75 := Tryd.sizeOf131
  v75 := Tryd.zeroValue131
  t76 := Tryd.underlying132
  a76 := Tryd.isAgg132
  z76 := Tryd.sizeOf132
  v76 := Tryd.zeroValue132
  t127 := Tryd.underlying150
  a127 := Tryd.isAgg150
  z127 := Tryd.sizeOf150
  v127 := Tryd.zeroValue150
  t164 := Tryd.underlying166
  a164 := Tryd.isAgg166
  z164 := Tryd.sizeOf166
  v164 := Tryd.zeroValue166 }
theorem sh_Builder_Extra_156 : Builder.Extra Tryd.prog sh_lays156_ren := {
  sizeBuilder := by kernel_rfl
  liesBuilder := by kernel_rfl
  t5 := Tryd.underlying5
  a5 := Tryd.isAgg5
  z5 := Tryd.sizeOf5
  v5 := Tryd.zeroValue5
  infoByte := by kernel_rfl
  cellsByte := by kernel_rfl
  sizeByte := by kernel_rfl
  neB5 := by decide }
open Go.RowKit in
theorem sh_strings_Join_none (a : Option Addr) (c : Nat) (sep : ByteArray) (w : World) :
    Calls Tryd.prog 62 #[.slice a 0 c, .string sep] w fun e w' => e = .returned (.string ⟨#[]⟩) ∧ w' = w := Any.strings_Join_none sh_lays156 sh_Builder_Extra_156 a c sep w
open Go.RowKit in
theorem sh_strings_Join (bk o c : Nat) (xs : List ByteArray) (sep : ByteArray) (w : World) (hcells : ∀ (j : Nat) x, xs[j]? = some x → w.cell? ⟨bk, o + j, none⟩ = some (.string x)) (hbk : bk < w.heap.size) (hN : xs.length ≤ 140737488355328) (hcap : xs.length ≤ c) (hlen : (Lib.join (xs.map (·.data.toList)) sep.data.toList).length ≤ 140737488355328) :
    Calls Tryd.prog 62 #[.slice (some ⟨bk, o, none⟩) xs.length c, .string sep] w fun e w' => e = .returned (.string ⟨(Lib.join (xs.map (·.data.toList)) sep.data.toList).toArray⟩) ∧ Below w.heap.size w w' := Any.strings_Join sh_lays156 sh_Builder_Extra_156 bk o c xs sep w hcells hbk hN hcap hlen
def sh_lays137_ren : Go.Shelf.Ren := ⟨fun | 137 => 102 | 217 => 114 | 266 => 122 | n => n, fun | 9 => 9 | 5 => 5 | 3 => 3 | n => n, fun | n => n⟩
theorem sh_lays137 : Go.Proofs.Lays.n137 Tryd.prog sh_lays137_ren := {
  mixed := by kernel_rfl
  f137 := Tryd.func102.trans (congrArg some (by kernel_rfl))
  f217 := Tryd.func114.trans (congrArg some (by kernel_rfl))
  f266 := Tryd.func122.trans (congrArg some (by kernel_rfl))
  t3 := Tryd.underlying3
  a3 := Tryd.isAgg3
  z3 := Tryd.sizeOf3
  v3 := Tryd.zeroValue3
  t5 := Tryd.underlying5
  a5 := Tryd.isAgg5
  z5 := Tryd.sizeOf5
  v5 := Tryd.zeroValue5
  t9 := Tryd.underlying9
  a9 := Tryd.isAgg9
  z9 := Tryd.sizeOf9
  v9 := Tryd.zeroValue9 }
open Go.RowKit in
theorem sh_strings_IndexByte (s : ByteArray) (c : Int) (w : World) :
    Calls Tryd.prog 102 #[.string s, .int .u8 c] w fun e w' => e = .returned (.int .i64 (Lib.indexByte s.data.toList c.toNat.toUInt8)) ∧ w' = w := Any.strings_IndexByte sh_lays137 s c w
def sh_laysM171_ren : Go.Shelf.Ren := ⟨fun | 171 => 60 | 243 => 76 | 246 => 91 | 283 => 104 | 284 => 105 | 285 => 106 | 286 => 107 | 129 => 116 | 317 => 115 | 318 => 117 | 319 => 118 | 320 => 119 | 337 => 123 | 338 => 124 | n => n, fun | 3 => 3 | 9 => 9 | 2 => 2 | 4 => 4 | 171 => 160 | 0 => 0 | 53 => 161 | 37 => 46 | 5 => 5 | 173 => 164 | 212 => 177 | 51 => 168 | 20 => 20 | 213 => 178 | 46 => 141 | 232 => 185 | 233 => 186 | n => n, fun | 17 => 2 | 18 => 4 | 19 => 5 | n => n⟩
theorem sh_laysM171 : Go.Proofs.LaysM.n171 Tryd.prog sh_laysM171_ren := {
  mixed := by kernel_rfl
  f129 := Tryd.func116.trans (congrArg some (by kernel_rfl))
  f171 := Tryd.func60.trans (congrArg some (by kernel_rfl))
  f243 := Tryd.func76.trans (congrArg some (by kernel_rfl))
  f246 := Tryd.func91.trans (congrArg some (by kernel_rfl))
  f283 := Tryd.func104.trans (congrArg some (by kernel_rfl))
  f284 := Tryd.func105.trans (congrArg some (by kernel_rfl))
  f285 := Tryd.func106.trans (congrArg some (by kernel_rfl))
  f286 := Tryd.func107.trans (congrArg some (by kernel_rfl))
  f317 := Tryd.func115.trans (congrArg some (by kernel_rfl))
  f318 := Tryd.func117.trans (congrArg some (by kernel_rfl))
  f319 := Tryd.func118.trans (congrArg some (by kernel_rfl))
  f320 := Tryd.func119.trans (congrArg some (by kernel_rfl))
  f337 := Tryd.func123.trans (congrArg some (by kernel_rfl))
  f338 := Tryd.func124.trans (congrArg some (by kernel_rfl))
  t0 := Tryd.underlying0
  a0 := Tryd.isAgg0
  z0 := Tryd.sizeOf0
  v0 := Tryd.zeroValue0
  t2 := Tryd.underlying2
  a2 := Tryd.isAgg2
  z2 := Tryd.sizeOf2
  v2 := Tryd.zeroValue2
  t3 := Tryd.underlying3
  a3 := Tryd.isAgg3
  z3 := Tryd.sizeOf3
  v3 := Tryd.zeroValue3
  t4 := Tryd.underlying4
  a4 := Tryd.isAgg4
  z4 := Tryd.sizeOf4
  v4 := Tryd.zeroValue4
  t5 := Tryd.underlying5
  a5 := Tryd.isAgg5
  z5 := Tryd.sizeOf5
  v5 := Tryd.zeroValue5
  t9 := Tryd.underlying9
  a9 := Tryd.isAgg9
  z9 := Tryd.sizeOf9
  v9 := Tryd.zeroValue9
  t20 := Tryd.underlying20
  a20 := Tryd.isAgg20
  z20 := Tryd.sizeOf20
  v20 := Tryd.zeroValue20
  t37 := Tryd.underlying46
  a37 := Tryd.isAgg46
  z37 := Tryd.sizeOf46
  v37 := Tryd.zeroValue46
  t46 := Tryd.underlying141
  a46 := Tryd.isAgg141
  z46 := Tryd.sizeOf141
  v46 := Tryd.zeroValue141
  t51 := Tryd.underlying168
  a51 := Tryd.isAgg168
  z51 := Tryd.sizeOf168
  v51 := Tryd.zeroValue168
  t53 := Tryd.underlying161
  a53 := Tryd.isAgg161
  z53 := Tryd.sizeOf161
  v53 := Tryd.zeroValue161
  t171 := Tryd.underlying160
  a171 := Tryd.isAgg160
  z171 := Tryd.sizeOf160
  v171 := Tryd.zeroValue160
  t173 := Tryd.underlying164
  a173 := Tryd.isAgg164
  z173 := Tryd.sizeOf164
  v173 := Tryd.zeroValue164
  t212 := Tryd.underlying177
  a212 := Tryd.isAgg177
  z212 := Tryd.sizeOf177
  v212 := Tryd.zeroValue177
  t213 := Tryd.underlying178
  a213 := Tryd.isAgg178
  z213 := Tryd.sizeOf178
  t232 := Tryd.underlying185
  a232 := Tryd.isAgg185
  z232 := Tryd.sizeOf185
  v232 := Tryd.zeroValue185
  t233 := Tryd.underlying186
  a233 := Tryd.isAgg186
  z233 := Tryd.sizeOf186
  v233 := Tryd.zeroValue186
  g17 := by kernel_rfl
  g18 := by kernel_rfl
  g19 := by kernel_rfl
  i0 := by kernel_rfl
  i2 := by kernel_rfl
  i3 := by kernel_rfl
  i4 := by kernel_rfl
  i5 := by kernel_rfl
  i9 := by kernel_rfl
  i20 := by kernel_rfl
  i37 := by kernel_rfl
  i46 := by kernel_rfl
  i51 := by kernel_rfl
  i53 := by kernel_rfl
  i171 := by kernel_rfl
  i173 := by kernel_rfl
  i212 := by kernel_rfl
  i232 := by kernel_rfl
  i233 := by kernel_rfl
  m17 := by kernel_rfl
  m18 := by kernel_rfl
  m19 := by kernel_rfl }
open Go.RowKit Go.Sort Go.Lib in
theorem sh_strconv_Itoa (n : Int) (h0 : -9223372036854775808 ≤ n) (h1 : n ≤ 9223372036854775807) (w : World) (htab : Lib.TabIs Tryd.prog w "internal/strconv.uint64pow10" .u64 Lib.pow10Tab) :
    Calls Tryd.prog 60 #[.int .i64 n] w fun e w' => e = .returned (.string ⟨(Lib.itoa n).toArray⟩) ∧ ∃ k os, w' = grow (w.drewN k) os := Any.strconv_Itoa sh_laysM171 n h0 h1 w htab
def sh_laysC172_ren : Go.Shelf.Ren := ⟨fun | 172 => 74 | 244 => 87 | 245 => 88 | 247 => 97 | 279 => 98 | 280 => 99 | 281 => 100 | 282 => 101 | 287 => 111 | 316 => 112 | 171 => 60 | 205 => 113 | 321 => 120 | 322 => 121 | 243 => 76 | 246 => 91 | 283 => 104 | 284 => 105 | 285 => 106 | 286 => 107 | 129 => 116 | 317 => 115 | 318 => 117 | 319 => 118 | 320 => 119 | 337 => 123 | 338 => 124 | n => n, fun | 9 => 9 | 3 => 3 | 75 => 131 | 76 => 132 | 4 => 4 | 5 => 5 | 167 => 152 | 37 => 46 | 0 => 0 | 85 => 153 | 2 => 2 | 168 => 155 | 53 => 161 | 175 => 170 | 46 => 141 | 210 => 173 | 127 => 150 | 145 => 183 | 143 => 181 | 21 => 21 | 171 => 160 | 173 => 164 | 212 => 177 | 51 => 168 | 20 => 20 | 213 => 178 | 232 => 185 | 233 => 186 | 80 => 57 | n => n, fun | 15 => 0 | 16 => 1 | 17 => 2 | 18 => 4 | 19 => 5 | n => n⟩
theorem sh_laysC172 : Go.Proofs.LaysC.n172 Tryd.prog sh_laysC172_ren := {
  mixed := by kernel_rfl
  f129 := Tryd.func116.trans (congrArg some (by kernel_rfl))
  f171 := Tryd.func60.trans (congrArg some (by kernel_rfl))
  f172 := Tryd.func74.trans (congrArg some (by kernel_rfl))
  f205 := Tryd.func113.trans (congrArg some (by kernel_rfl))
  f243 := Tryd.func76.trans (congrArg some (by kernel_rfl))
  f244 := Tryd.func87.trans (congrArg some (by kernel_rfl))
  f245 := Tryd.func88.trans (congrArg some (by kernel_rfl))
  f246 := Tryd.func91.trans (congrArg some (by kernel_rfl))
  f247 := Tryd.func97.trans (congrArg some (by kernel_rfl))
  f279 := Tryd.func98.trans (congrArg some (by kernel_rfl))
  f280 := Tryd.func99.trans (congrArg some (by kernel_rfl))
  f281 := Tryd.func100.trans (congrArg some (by kernel_rfl))
  f282 := Tryd.func101.trans (congrArg some (by kernel_rfl))
  f283 := Tryd.func104.trans (congrArg some (by kernel_rfl))
  f284 := Tryd.func105.trans (congrArg some (by kernel_rfl))
  f285 := Tryd.func106.trans (congrArg some (by kernel_rfl))
  f286 := Tryd.func107.trans (congrArg some (by kernel_rfl))
  f287 := Tryd.func111.trans (congrArg some (by kernel_rfl))
  f316 := Tryd.func112.trans (congrArg some (by kernel_rfl))
  f317 := Tryd.func115.trans (congrArg some (by kernel_rfl))
  f318 := Tryd.func117.trans (congrArg some (by kernel_rfl))
  f319 := Tryd.func118.trans (congrArg some (by kernel_rfl))
  f320 := Tryd.func119.trans (congrArg some (by kernel_rfl))
  f321 := Tryd.func120.trans (congrArg some (by kernel_rfl))
  f322 := Tryd.func121.trans (congrArg some (by kernel_rfl))
  f337 := Tryd.func123.trans (congrArg some (by kernel_rfl))
  f338 := Tryd.func124.trans (congrArg some (by kernel_rfl))
  t0 := Tryd.underlying0
  a0 := Tryd.isAgg0
  z0 := Tryd.sizeOf0
  v0 := Tryd.zeroValue0
  t2 := Tryd.underlying2
  a2 := Tryd.isAgg2
  z2 := Tryd.sizeOf2
  v2 := Tryd.zeroValue2
  t3 := Tryd.underlying3
  a3 := Tryd.isAgg3
  z3 := Tryd.sizeOf3
  v3 := Tryd.zeroValue3
  t4 := Tryd.underlying4
  a4 := Tryd.isAgg4
  z4 := Tryd.sizeOf4
  v4 := Tryd.zeroValue4
  t5 := Tryd.underlying5
  a5 := Tryd.isAgg5
  z5 := Tryd.sizeOf5
  v5 := Tryd.zeroValue5
  t9 := Tryd.underlying9
  a9 := Tryd.isAgg9
  z9 := Tryd.sizeOf9
  v9 := Tryd.zeroValue9
  t20 := Tryd.underlying20
  a20 := Tryd.isAgg20
  z20 := Tryd.sizeOf20
  v20 := Tryd.zeroValue20
  t21 := Tryd.underlying21
  a21 := Tryd.isAgg21
  z21 := Tryd.sizeOf21
  v21 := Tryd.zeroValue21
  t37 := Tryd.underlying46
  a37 := Tryd.isAgg46
  z37 := Tryd.sizeOf46
  v37 := Tryd.zeroValue46
  t46 := Tryd.underlying141
  a46 := Tryd.isAgg141
  z46 := Tryd.sizeOf141
  v46 := Tryd.zeroValue141
  t51 := Tryd.underlying168
  a51 := Tryd.isAgg168
  z51 := Tryd.sizeOf168
  v51 := Tryd.zeroValue168
  t53 := Tryd.underlying161
  a53 := Tryd.isAgg161
  z53 := Tryd.sizeOf161
  v53 := Tryd.zeroValue161
  t75 := Tryd.underlying131
  a75 := Tryd.isAgg131
  z75 := Tryd.sizeOf131
  v75 := Tryd.zeroValue131
  t76 := Tryd.underlying132
  a76 := Tryd.isAgg132
  z76 := Tryd.sizeOf132
  v76 := Tryd.zeroValue132
  t85 := Tryd.underlying153
  a85 := Tryd.isAgg153
  z85 := Tryd.sizeOf153
  v85 := Tryd.zeroValue153
  t127 := Tryd.underlying150
  a127 := Tryd.isAgg150
  z127 := Tryd.sizeOf150
  v127 := Tryd.zeroValue150
  t143 := Tryd.underlying181
  a143 := Tryd.isAgg181
  z143 := Tryd.sizeOf181
  v143 := Tryd.zeroValue181
  t145 := Tryd.underlying183
  a145 := Tryd.isAgg183
  z145 := Tryd.sizeOf183
  v145 := Tryd.zeroValue183
  t167 := Tryd.underlying152
  a167 := Tryd.isAgg152
  z167 := Tryd.sizeOf152
  v167 := Tryd.zeroValue152
  t168 := Tryd.underlying155
  a168 := Tryd.isAgg155
  z168 := Tryd.sizeOf155
  v168 := Tryd.zeroValue155
  t171 := Tryd.underlying160
  a171 := Tryd.isAgg160
  z171 := Tryd.sizeOf160
  v171 := Tryd.zeroValue160
  t173 := Tryd.underlying164
  a173 := Tryd.isAgg164
  z173 := Tryd.sizeOf164
  v173 := Tryd.zeroValue164
  t175 := Tryd.underlying170
  a175 := Tryd.isAgg170
  z175 := Tryd.sizeOf170
  v175 := Tryd.zeroValue170
  t210 := Tryd.underlying173
  a210 := Tryd.isAgg173
  z210 := Tryd.sizeOf173
  v210 := Tryd.zeroValue173
  t212 := Tryd.underlying177
  a212 := Tryd.isAgg177
  z212 := Tryd.sizeOf177
  v212 := Tryd.zeroValue177
  t213 := Tryd.underlying178
  a213 := Tryd.isAgg178
  z213 := Tryd.sizeOf178
  t232 := Tryd.underlying185
  a232 := Tryd.isAgg185
  z232 := Tryd.sizeOf185
  v232 := Tryd.zeroValue185
  t233 := Tryd.underlying186
  a233 := Tryd.isAgg186
  z233 := Tryd.sizeOf186
  v233 := Tryd.zeroValue186
  g15 := by kernel_rfl
  g16 := by kernel_rfl
  g17 := by kernel_rfl
  g18 := by kernel_rfl
  g19 := by kernel_rfl
  t80 := Tryd.underlying57
  a80 := Tryd.isAgg57
  z80 := Tryd.sizeOf57
  v80 := Tryd.zeroValue57
  i0 := by kernel_rfl
  i2 := by kernel_rfl
  i3 := by kernel_rfl
  i4 := by kernel_rfl
  i5 := by kernel_rfl
  i9 := by kernel_rfl
  i20 := by kernel_rfl
  i21 := by kernel_rfl
  i37 := by kernel_rfl
  i46 := by kernel_rfl
  i51 := by kernel_rfl
  i53 := by kernel_rfl
  i75 := by kernel_rfl
  i76 := by kernel_rfl
  i80 := by kernel_rfl
  i85 := by kernel_rfl
  i127 := by kernel_rfl
  i143 := by kernel_rfl
  i145 := by kernel_rfl
  i167 := by kernel_rfl
  i168 := by kernel_rfl
  i171 := by kernel_rfl
  i173 := by kernel_rfl
  i175 := by kernel_rfl
  i210 := by kernel_rfl
  i212 := by kernel_rfl
  i232 := by kernel_rfl
  i233 := by kernel_rfl
  m15 := by kernel_rfl
  m16 := by kernel_rfl
  m17 := by kernel_rfl
  m18 := by kernel_rfl
  m19 := by kernel_rfl
  c0 := by kernel_rfl
  c2 := by kernel_rfl
  c3 := by kernel_rfl
  c4 := by kernel_rfl
  c5 := by kernel_rfl
  c9 := by kernel_rfl
  c20 := by kernel_rfl
  c21 := by kernel_rfl
  c37 := by kernel_rfl
  c46 := by kernel_rfl
  c51 := by kernel_rfl
  c53 := by kernel_rfl
  c75 := by kernel_rfl
  c76 := by kernel_rfl
  c80 := by kernel_rfl
  c85 := by kernel_rfl
  c127 := by kernel_rfl
  c143 := by kernel_rfl
  c145 := by kernel_rfl
  c167 := by kernel_rfl
  c168 := by kernel_rfl
  c171 := by kernel_rfl
  c173 := by kernel_rfl
  c175 := by kernel_rfl
  c210 := by kernel_rfl
  c212 := by kernel_rfl
  c213 := by kernel_rfl
  c232 := by kernel_rfl
  c233 := by kernel_rfl }
open Go.RowKit in
theorem sh_strconv_Atoi_ok (s : ByteArray) (hmax : s.size ≤ 9223372036854775806) (v : Int) (h : Lib.atoiAll s.data.toList = .ok v) (w : World) :
    Calls Tryd.prog 74 #[.string s] w fun e w' => e = .returned (.tuple #[.int .i64 v, .nilIface]) ∧ (w' = w ∨ ∃ t, w' = Lib.bytesWorld w 5 t) := Any.strconv_Atoi_ok sh_laysC172 s hmax v h w
open Go.RowKit in
theorem sh_strconv_Atoi_range_var (s : ByteArray) (hlim : s.size ≤ 281474976710656) (h : Lib.atoiAll s.data.toList = .range) (tp : TypeId) (p : Value) (w : World) (hvar : w.var? Tryd.prog "strconv.ErrRange" = some #[.iface tp p]) :
    Calls Tryd.prog 74 #[.string s] w fun e w' => ∃ N, e = .returned (.tuple #[.int .i64 (Lib.atoiSat s.data.toList), .iface 155 (.pointer (some ⟨N, 0, none⟩))]) ∧ w.heap.size ≤ N ∧ w'.heap[N]? = some (.cells #[.string ⟨#[65, 116, 111, 105]⟩, .string s, .iface tp p] 173 (0, 0)) ∧ Below w.heap.size w w' := Any.strconv_Atoi_range_var sh_laysC172 s hlim h tp p w hvar
def sh_lays99_ren : Go.Shelf.Ren := ⟨fun | 99 => 78 | 206 => 93 | n => n, fun | 9 => 9 | 4 => 4 | 3 => 3 | n => n, fun | n => n⟩
theorem sh_lays99 : Go.Proofs.Lays.n99 Tryd.prog sh_lays99_ren := {
  mixed := by kernel_rfl
  f99 := Tryd.func78.trans (congrArg some (by kernel_rfl))
  f206 := Tryd.func93.trans (congrArg some (by kernel_rfl))
  t3 := Tryd.underlying3
  a3 := Tryd.isAgg3
  z3 := Tryd.sizeOf3
  v3 := Tryd.zeroValue3
  t4 := Tryd.underlying4
  a4 := Tryd.isAgg4
  z4 := Tryd.sizeOf4
  v4 := Tryd.zeroValue4
  t9 := Tryd.underlying9
  a9 := Tryd.isAgg9
  z9 := Tryd.sizeOf9
  v9 := Tryd.zeroValue9 }
open Go.RowKit Go.Lib in
theorem sh_strings_HasPrefix (s p : ByteArray) (w : World) :
    Calls Tryd.prog 78 #[.string s, .string p] w fun e w' => e = .returned (.bool (Lib.hasPrefix s.data.toList p.data.toList)) ∧ w' = w := Any.strings_HasPrefix sh_lays99 s p w
end Go.Proofs.YtelgegefmjlimaaDoor

/-
  The library's functions that a change's text needs, as contracts of the engine: strings.IndexByte, HasPrefix, Join, strconv.Itoa, Atoi. No condition.
-/
namespace Go.Eng
open Go Go.RowKit
/-- a variable of the library's holds these cells -/
def GV (P : Program) (name : String) (cs : Array Value) (m : Mem) : Prop := ∃ g T fz, P.globalNamed name = some g ∧ m g = some (.cells cs T fz)
theorem GV.le {P : Program} {name : String} {cs : Array Value} {m m' : Mem} (h : GV P name cs m) (hm : m.le m') : GV P name cs m' := by
  obtain ⟨g, T, fz, h1, h2⟩ := h
  exact ⟨g, T, fz, h1, hm _ _ h2⟩
theorem GV.var {P : Program} {name : String} {cs : Array Value} {m : Mem} {w0 w : World} {H : SHeap} (h : GV P name cs m) (hs : Sat w0 m H w) : w.var? P name = some cs := by
  obtain ⟨g, T, fz, h1, h2⟩ := h
  simp [World.var?, h1, hs.pers _ _ h2]
theorem GV.of {P : Program} {name : String} {cs : Array Value} {w : World} (h : w.var? P name = some cs) : GV P name cs (memOf w) := by
  unfold World.var? at h
  cases hg : P.globalNamed name with
  | none => rw [hg] at h; cases h
  | some g =>
    rw [hg] at h
    simp only [Option.bind_some] at h
    cases ho : w.heap[g]? with
    | none => rw [ho] at h; cases h
    | some o =>
      rw [ho] at h
      cases o <;> simp at h
      case cells cs' T fz => subst h; exact ⟨g, T, fz, hg, ho⟩
/-- the tables and the error that the conversions read -/
structure GTabs (P : Program) (m : Mem) : Prop where
  pow : GV P "internal/strconv.uint64pow10" (Lib.pow10Tab.map fun z => Value.int .u64 z).toArray m
  rng : ∃ tp p, GV P "strconv.ErrRange" #[.iface tp p] m
  brj : GV P "math/bits.deBruijn64tab" (([0, 1, 56, 2, 57, 49, 28, 3, 61, 58, 42, 50, 38, 29, 17, 4, 62, 47, 59, 36, 45, 43, 51, 22, 53, 39, 33, 30, 24, 18, 12, 5, 63, 55, 48, 27, 60, 41, 37, 16, 46, 35, 44, 21, 52, 32, 23, 11, 54, 26, 40, 15, 34, 20, 31, 10, 25, 14, 19, 9, 13, 8, 7, 6] : List Int).map fun z => Value.int .u8 z).toArray m
theorem GTabs.le {P : Program} {m m' : Mem} (h : GTabs P m) (hm : m.le m') : GTabs P m' :=
  ⟨h.pow.le hm, by obtain ⟨tp, p, h1⟩ := h.rng; exact ⟨tp, p, h1.le hm⟩, h.brj.le hm⟩
theorem decDigits_eq (n : Nat) : Lib.decDigits n = decL n := by
  rw [Lib.decDigits, decL]
  by_cases h : n < 10
  · rw [dif_pos h, if_pos h]; rfl
  · rw [dif_neg h, if_neg h, decDigits_eq (n / 10)]; rfl
termination_by n
theorem parse_run : ∀ (l : List UInt8) (acc : Nat), (∀ c ∈ l, 48 ≤ c.toNat ∧ c.toNat ≤ 57) → (Lib.parseUint10 acc l = .ok (l.foldl (fun n c => 10 * n + (c.toNat - 48)) acc)) ∨ (Lib.parseUint10 acc l = .range ∧ 18446744073709551616 ≤ l.foldl (fun n c => 10 * n + (c.toNat - 48)) acc)
  | [], acc, _ => .inl rfl
  | c :: r, acc, h => by
    have mono : ∀ (l : List UInt8) (a b : Nat), a ≤ b → a ≤ l.foldl (fun n c => 10 * n + (c.toNat - 48)) b := by
      intro l
      induction l with
      | nil => intro a b h; exact h
      | cons c l ih => intro a b h; exact ih a _ (by show a ≤ 10 * b + (c.toNat - 48); omega)
    rw [Lib.parseUint10, if_pos (h c List.mem_cons_self), List.foldl_cons]
    by_cases h1 : 1844674407370955162 ≤ acc
    · rw [if_pos h1]
      exact .inr ⟨rfl, mono r _ _ (by omega)⟩
    · rw [if_neg h1]
      by_cases h2 : 18446744073709551616 ≤ acc * 10 + (c.toNat - 48)
      · rw [if_pos h2]
        exact .inr ⟨rfl, mono r _ _ (by omega)⟩
      · rw [if_neg h2, Nat.mul_comm acc 10]
        exact parse_run r _ fun q hq => h q (List.mem_cons_of_mem _ hq)
theorem atoiAll_run {l : List UInt8} (hl : l ≠ []) (h : ∀ c ∈ l, 48 ≤ c.toNat ∧ c.toNat ≤ 57) : (Lib.atoiAll l = .ok (decV l : Int) ∧ decV l < 9223372036854775808) ∨ (Lib.atoiAll l = .range ∧ 9223372036854775808 ≤ decV l) := by
  cases l with
  | nil => exact absurd rfl hl
  | cons c r =>
    have hc := h c List.mem_cons_self
    have hn : ¬ (c.toNat = 43 ∨ c.toNat = 45) := by omega
    have hn2 : ¬ c.toNat = 45 := by omega
    unfold Lib.atoiAll
    simp only [if_neg hn]
    unfold Lib.parseMag
    rw [if_neg (by simp)]
    have e : (c :: r).foldl (fun n c => 10 * n + (c.toNat - 48)) 0 = decV (c :: r) := rfl
    rcases parse_run (c :: r) 0 h with h1 | ⟨h1, h2⟩
    · rw [h1, e]
      simp only [hn2, not_false_eq_true, true_and, false_and, if_false]
      by_cases h3 : 9223372036854775808 ≤ decV (c :: r)
      · rw [if_pos h3]; exact .inr ⟨rfl, h3⟩
      · rw [if_neg h3]; exact .inl ⟨rfl, by omega⟩
    · rw [h1]
      rw [e] at h2
      exact .inr ⟨rfl, by omega⟩
theorem indexByte_hexs : ∀ k < 256, Lib.indexByte hexs (UInt8.ofNat k) = hexV (UInt8.ofNat k) := by decide +kernel
theorem below_grows (w : World) (q : Nat) (os : Array Obj) : RowKit.Below w.heap.size w (Sort.grow (w.drewN q) os) :=
  ⟨rfl, rfl, rfl, by first | (simp [Sort.grow]; done) | (simp [Sort.grow]; omega), fun i hi => by
    show ((w.drewN q).heap ++ os)[i]? = _
    rw [Array.getElem?_append_left (by show i < w.heap.size; omega)]
    rfl⟩
theorem flat_str (xs : List (List UInt8)) : (xs.map fun x => [str x]).flatten = xs.map str := by
  induction xs with
  | nil => rfl
  | cons z zs ih => rw [List.map_cons, List.flatten_cons, ih]; rfl
end Go.Eng
namespace Go.Proofs.YtelgegefmjlimaaDoor
open Go Go.Eng
set_option maxRecDepth 100000
theorem itoa_any {n : Int} (h : 0 ≤ n ∧ n ≤ 9223372036854775807) {w0 : World} {m : Mem} {H : SHeap} (hg : GTabs Tryd.prog m) : Does Tryd.prog 60 #[.int .i64 n] w0 m H (Gives (str (decL n.toNat)) m H) := by
  refine Does.ofBelow fun w hw => ?_
  refine (sh_strconv_Itoa n (by omega) h.2 w (hg.pow.var hw)).mono ?_
  rintro e w' ⟨rfl, k, os, rfl⟩
  have e1 : Lib.itoa n = decL n.toNat := by unfold Lib.itoa; rw [if_neg (by omega), decDigits_eq]
  rw [e1]
  exact ⟨rfl, below_grows _ _ _⟩
theorem atoi_any {t : List UInt8} (hl : t ≠ []) (h : ∀ c ∈ t, 48 ≤ c.toNat ∧ c.toNat ≤ 57) (hs : t.length ≤ 281474976710656) {w0 : World} {m : Mem} {H : SHeap} (hg : GTabs Tryd.prog m) :
    Does Tryd.prog 74 #[str t] w0 m H (fun v m' H' => m' = m ∧ H' = H ∧ ((decV t < 9223372036854775808 ∧ v = .tuple #[.int .i64 (decV t : Int), .nilIface]) ∨ (9223372036854775808 ≤ decV t ∧ ∃ z T p, v = .tuple #[.int .i64 z, .iface T p]))) := by
  rcases atoiAll_run hl h with ⟨h1, h2⟩ | ⟨h1, h2⟩
  · refine Does.mono (Does.ofBelow (v := .tuple #[.int .i64 (decV t : Int), .nilIface]) fun w hw => ?_) ?_
    · refine (sh_strconv_Atoi_ok ⟨t.toArray⟩ (by simp [ByteArray.size]; omega) (decV t : Int) (by simpa using h1) w).mono ?_
      rintro e w' ⟨rfl, (rfl | ⟨x, rfl⟩)⟩
      · exact ⟨rfl, RowKit.Below.refl _ _⟩
      · exact ⟨rfl, Lib.bytesWorld_below _ _ _⟩
    · rintro v m' H' ⟨rfl, rfl, rfl⟩
      exact ⟨rfl, rfl, .inl ⟨h2, rfl⟩⟩
  · intro w hs'
    obtain ⟨tp, p, hr⟩ := hg.rng
    refine (callsIn_wide.2 (sh_strconv_Atoi_range_var ⟨t.toArray⟩ (by simpa [ByteArray.size] using hs) (by simpa using h1) tp p w (hr.var hs'))).mono ?_
    rintro e w' ⟨N, he, _, _, hb⟩
    exact ⟨_, m, H, he, ⟨rfl, rfl, .inr ⟨h2, _, _, _, rfl⟩⟩, hs'.below_keep hb⟩
theorem indexByte_any {c : Nat} (hc : c < 256) {w0 : World} {m : Mem} {H : SHeap} : Does Tryd.prog 102 #[str hexs, .int .u8 (c : Int)] w0 m H (Gives (.int .i64 (hexV (UInt8.ofNat c))) m H) := by
  refine Does.ofSame fun w _ => ?_
  have := sh_strings_IndexByte ⟨hexs.toArray⟩ (c : Int) w
  rw [← indexByte_hexs c hc]
  exact this
theorem hasPrefix_any {s t : List UInt8} (w0 : World) (m : Mem) (H : SHeap) : Does Tryd.prog 78 #[str s, str t] w0 m H (Gives (.bool (Lib.hasPrefix s t)) m H) :=
  Does.ofSame fun w _ => sh_strings_HasPrefix ⟨s.toArray⟩ ⟨t.toArray⟩ w
theorem joinNone_any {a : Option Addr} {c : Nat} {t : List UInt8} (w0 : World) (m : Mem) (H : SHeap) : Does Tryd.prog 62 #[.slice a 0 c, str t] w0 m H (Gives (str []) m H) :=
  Does.ofSame fun w _ => sh_strings_Join_none a c ⟨t.toArray⟩ w
theorem join_any {a : Addr} {c : Nat} {T : TypeId} {xs : List (List UInt8)} {t : List UInt8} {w0 : World} {m : Mem} {H : SHeap} (hm : Item.row (some a) c T 1 (xs.map fun x => [str x]) ∈ H) (hn : xs.length ≤ 140737488355328) (hl : (Lib.join xs t).length ≤ 140737488355328) :
    Does Tryd.prog 62 #[.slice (some a) xs.length c, str t] w0 m H (Gives (str (Lib.join xs t)) m H) := by
  refine Does.ofBelow fun w hw => ?_
  have hr := (RowR.row (w0 := w0) (m := m) hm w hw).2
  have hi := hw.own _ hm
  obtain ⟨arr, fz, h1, h2, h3, h4, _⟩ := hi
  have hx : (xs.map fun x => (⟨x.toArray⟩ : ByteArray)).map (·.data.toList) = xs := by rw [List.map_map]; simp [Function.comp_def]
  have key := sh_strings_Join a.block a.off c (xs.map fun x => ⟨x.toArray⟩) ⟨t.toArray⟩ w (by
    intro j x hj
    rw [List.getElem?_map] at hj
    cases hq : xs[j]? with
    | none => rw [hq] at hj; cases hj
    | some y =>
      rw [hq] at hj
      simp only [Option.map_some, Option.some.injEq] at hj
      subst hj
      have e1 : (xs.map fun x => [str x]).flatten[j]? = some (str y) := by
        rw [flat_str, List.getElem?_map, hq]; rfl
      have := hr j _ e1
      rw [add_eq (by rw [h1])] at this
      exact this) (Array.getElem?_eq_some_iff.1 h2).1 (by rw [List.length_map]; exact hn) (by rw [List.length_map]; simpa using h4) (by rw [hx]; exact hl)
  rw [hx, List.length_map] at key
  have ea : (⟨a.block, a.off, none⟩ : Addr) = a := by rw [h1]
  rw [ea] at key
  exact key
end Go.Proofs.YtelgegefmjlimaaDoor

/-
  A walk's engine: a rune's last bit; answers told as propositions. No condition.
-/
set_option linter.all false
namespace Go.Eng
open Go Go.RowKit
section
variable {P : Program} {ro : Option Nat} {n : Nat} {w0 : World} {Q : Exit → Act → World → Prop} {r : Env} {ds : List Nat} {m : Mem} {H : SHeap}
  {ops : Array Oper} {l : List Oper} {d : Nat} {ty t t' : TypeId} {pos : String} {after : Array Edge} {x y : Operand} {a : Int}
end

theorem dcd_cong {p q : Prop} [Decidable p] [Decidable q] (h : p ↔ q) : dcd p = dcd q := by rw [dcd_eq, dcd_eq]; exact decide_eq_decide.2 h
end Go.Eng

/-
  The walks of the program's reader: is, fail. No condition.
-/
namespace Go.Proofs.YtelgegefmjlimaaDoor
open Go Go.Eng
set_option maxRecDepth 100000
set_option maxHeartbeats 4000000
set_option linter.all false
attribute [local irreducible] WL WC WQ QFun QLoop Does Q1 QRound QAssign Go.Addr.add
theorem eIs_any (b : Nat) (s : List UInt8) (a : Nat) (wr fr to : Int) (c : UInt8) (hs : s.length ≤ 1000000000) (ha : a ≤ 1000000001) (w0 : World) (m : Mem) (H : SHeap) :
    Does Tryd.prog 28 #[.pointer (some ⟨b, 0, none⟩), .int .u8 (c.toNat : Int)] w0 m (.blk b (.cells [str s, .int .i64 (a : Int), .int .i64 wr, .int .i64 fr, .int .i64 to].toArray 61 (0, 0)) :: H) (Gives (.bool (dcd (a < s.length ∧ gb s a = c.toNat))) m (.blk b (.cells [str s, .int .i64 (a : Int), .int .i64 wr, .int .i64 fr, .int .i64 to].toArray 61 (0, 0)) :: H)) := by
  refine Does.of_body (args := [.pointer (some ⟨b, 0, none⟩), .int .u8 (c.toNat : Int)]) Tryd.func28 rfl Tryd.ntmps28 rfl ?_
  by_cases h1 : a < s.length
  · by_cases h2 : gb s a = c.toNat
    · have h3 : (gb s a : Int) = (c.toNat : Int) := by rw [h2]
      rw [dcd_true ⟨h1, h2⟩]
      (try (refine st ?_; intros))
      exact q_fin0 (H0 := .blk b (.cells [str s, .int .i64 (a : Int), .int .i64 wr, .int .i64 fr, .int .i64 to].toArray 61 (0, 0)) :: H) (Gives.mk (show Value.bool (dcd ((gb s a : Int) = (c.toNat : Int))) = .bool true by rw [dcd_true h3])) (hd := zpk)
    · have h3 : ¬ (gb s a : Int) = (c.toNat : Int) := fun h => h2 (Int.ofNat.inj h)
      rw [dcd_false (fun h => h2 h.2)]
      (try (refine st ?_; intros))
      exact q_fin0 (H0 := .blk b (.cells [str s, .int .i64 (a : Int), .int .i64 wr, .int .i64 fr, .int .i64 to].toArray 61 (0, 0)) :: H) (Gives.mk (show Value.bool (dcd ((gb s a : Int) = (c.toNat : Int))) = .bool false by rw [dcd_false h3])) (hd := zpk)
  · rw [dcd_false (fun h => h1 h.1)]
    (try (refine st ?_; intros))
    exact q_fin0 (H0 := .blk b (.cells [str s, .int .i64 (a : Int), .int .i64 wr, .int .i64 fr, .int .i64 to].toArray 61 (0, 0)) :: H) (Gives.mk rfl) (hd := zpk)
theorem eIs_mem {b : Nat} {s : List UInt8} {a : Nat} {wr fr to : Int} {c : UInt8} {w0 : World} {m : Mem} {H : SHeap} (hm : .blk b (.cells [str s, .int .i64 (a : Int), .int .i64 wr, .int .i64 fr, .int .i64 to].toArray 61 (0, 0)) ∈ H) (hs : s.length ≤ 1000000000) (ha : a ≤ 1000000001) :
    Does Tryd.prog 28 #[.pointer (some ⟨b, 0, none⟩), .int .u8 (c.toNat : Int)] w0 m H (Gives (.bool (dcd (a < s.length ∧ gb s a = c.toNat))) m H) := Does.gives_at hm fun _ => eIs_any b s a wr fr to c hs ha _ _ _
theorem eIs_int {b : Nat} {s : List UInt8} {a : Nat} {wr fr to k : Int} {w0 : World} {m : Mem} {H : SHeap} (hm : .blk b (.cells [str s, .int .i64 (a : Int), .int .i64 wr, .int .i64 fr, .int .i64 to].toArray 61 (0, 0)) ∈ H) (hs : s.length ≤ 1000000000) (ha : a ≤ 1000000001) (hk : 0 ≤ k ∧ k ≤ 255) :
    Does Tryd.prog 28 #[.pointer (some ⟨b, 0, none⟩), .int .u8 k] w0 m H (Gives (.bool (dcd (a < s.length ∧ (gb s a : Int) = k))) m H) := by
  obtain ⟨c, rfl⟩ : ∃ c : UInt8, k = (c.toNat : Int) := ⟨UInt8.ofNat k.toNat, by rw [UInt8.toNat_ofNat']; omega⟩
  have := eIs_mem (b := b) (c := c) (w0 := w0) (m := m) hm hs ha
  rw [dcd_cong (show (a < s.length ∧ gb s a = c.toNat) ↔ (a < s.length ∧ (gb s a : Int) = (c.toNat : Int)) by omega)] at this
  exact this
theorem eFail_any (b : Nat) (s : List UInt8) (a : Nat) (wr fr to x : Int) (w0 : World) (m : Mem) (H : SHeap) :
    Does Tryd.prog 56 #[.pointer (some ⟨b, 0, none⟩), .int .i64 x] w0 m (.blk b (.cells [str s, .int .i64 (a : Int), .int .i64 wr, .int .i64 fr, .int .i64 to].toArray 61 (0, 0)) :: H) (fun v m' H' => v = .bool false ∧ m' = m ∧ H' = .blk b (.cells [str s, .int .i64 (a : Int), .int .i64 x, .int .i64 fr, .int .i64 to].toArray 61 (0, 0)) :: H) := by
  refine Does.of_body (args := [.pointer (some ⟨b, 0, none⟩), .int .i64 x]) Tryd.func56 rfl Tryd.ntmps56 rfl ?_
  (try (refine st ?_; intros))
  exact q_fin0 (H0 := .blk b (.cells [str s, .int .i64 (a : Int), .int .i64 x, .int .i64 fr, .int .i64 to].toArray 61 (0, 0)) :: H) ⟨rfl, rfl, rfl⟩ (hd := zpk)
end Go.Proofs.YtelgegefmjlimaaDoor

/-
  The walks of package runes and of its reference, first part: a rune's width, the piece that is read at a place. No condition.
-/
namespace Go.Proofs.YtelgegefmjlimaaDoor
open Go Go.Eng
set_option maxRecDepth 100000
set_option maxHeartbeats 4000000
set_option linter.all false
attribute [local irreducible] WL WC WQ QFun QLoop Does Q1 QRound QAssign Go.Addr.add
/-- runes.Width, of whatever number -/
def widthS (r : Int) : Int := if r ≠ 65533 ∧ fmb (rn r) = [239, 191, 189] then 0 else (wd (rn r) : Int)
theorem width_any (r : Int) (w0 : World) (m : Mem) (H : SHeap) : Does Tryd.prog 96 #[.int .i32 r] w0 m H (Gives (.int .i64 (widthS r)) m H) := by
  refine Does.of_body (args := [.int .i32 r]) Tryd.func96 rfl Tryd.ntmps96 rfl ?_
  (try (refine st ?_; intros))
  (first | refine c_ways (fun h1 => ?_) (fun h1 => ?_) | refine c_nways (fun h1 => ?_) (fun h1 => ?_) | refine w_gways (fun h1 => ?_) (fun h1 => ?_) | refine w_gnways (fun h1 => ?_) (fun h1 => ?_))
  · (try (refine st ?_; intros))
    (first | refine c_ways (fun h2 => ?_) (fun h2 => ?_) | refine c_nways (fun h2 => ?_) (fun h2 => ?_) | refine w_gways (fun h2 => ?_) (fun h2 => ?_) | refine w_gnways (fun h2 => ?_) (fun h2 => ?_))
    · (try (refine st ?_; intros))
      rw [encode_eq] at h2
      exact WQ.fin _ (res_tmp rfl rfl) (.mk (by rw [widthS, if_pos ⟨h1, h2⟩]))
    · (try (refine st ?_; intros))
      rw [encode_eq] at h2 ⊢
      exact WQ.fin _ (res_tmp rfl rfl) (.mk (by rw [widthS, if_neg (fun h => h2 h.2), fmb_length]))
  · (try (refine st ?_; intros))
    rw [encode_eq]
    exact WQ.fin _ (res_tmp rfl rfl) (.mk (by rw [widthS, if_neg (fun h => h.1 h1), fmb_length]))

theorem widthS_ok {c : Nat} (h : okr c) : widthS (c : Int) = (wd c : Int) := by
  unfold widthS
  rw [rn_nat h, if_neg]
  rintro ⟨h1, h2⟩
  apply h1
  have h3 : wd c = 3 := by rw [← fmb_length c, h2]; rfl
  have hc : ¬ c < 128 ∧ ¬ c < 2048 ∧ c < 65536 := by
    unfold wd at h3
    split at h3
    · cases h3
    · split at h3
      · cases h3
      · split at h3
        · omega
        · cases h3
  have h4 := nb_fmb c 0 (by omega) (by omega)
  have h5 := nb_fmb c 1 (by omega) (by omega)
  have h6 := nb_fmb c 2 (by omega) (by omega)
  rw [h2] at h4 h5 h6
  unfold fm at h4 h5 h6
  rw [if_neg hc.1, if_neg hc.2.1, if_pos hc.2.2] at h4 h5 h6
  simp [nb, gb] at h4 h5 h6
  omega
theorem fmb_lost : fmb 65533 = [239, 191, 189] := by decide
end Go.Proofs.YtelgegefmjlimaaDoor

/-
  The walk of runes.Encode, for a seat that does not reach the rest of runes. No condition.
-/
namespace Go.Proofs.YtelgegefmjlimaaDoor
open Go Go.Eng
set_option maxRecDepth 100000
set_option maxHeartbeats 4000000
set_option linter.all false
attribute [local irreducible] WL WC WQ QFun QLoop Does Q1 QRound QAssign Go.Addr.add
/-- the code point that stands for a number -/
theorem rn_cases (r : Int) : (Utf8.valid r = false ∧ rn r = 65533) ∨ (Utf8.valid r = true ∧ r = (rn r : Int)) := by
  unfold rn
  cases h : Utf8.valid r with
  | false => exact .inl ⟨rfl, rfl⟩
  | true => have := ((valid_iff r).1 h).1; exact .inr ⟨rfl, by simp; omega⟩
theorem or_add {a x : Nat} (k b : Nat) (ha : a = 2 ^ k * b) (h : x < 2 ^ k) : a ||| x = a + x := by rw [ha]; exact (Nat.two_pow_add_eq_or_of_lt h b).symm
theorem tail_any (r : Int) (h0 : 0 ≤ r ∧ r ≤ 2147483647) (w0 : World) (m : Mem) (H : SHeap) : Does Tryd.prog 103 #[.int .i32 r] w0 m H (Gives (.int .u8 (128 + r % 64)) m H) := by
  refine Does.of_body (args := [.int .i32 r]) Tryd.func103 rfl Tryd.ntmps103 rfl ?_
  have h1 : (r % 256).toNat &&& (63 : Int).toNat = (r % 64).toNat := by
    have := Nat.and_two_pow_sub_one_eq_mod (r % 256).toNat 6
    rw [show (63 : Int).toNat = 2 ^ 6 - 1 by decide, this]; omega
  have h2 : (r % 64).toNat ||| (128 : Int).toNat = 128 + (r % 64).toNat := by
    rw [Nat.or_comm]; exact or_add 7 1 (by decide) (by omega)
  (try (refine st ?_; intros))
  (refine q_fin0 ?_)
  refine Gives.mk (vi ?_)
  rw [h1, Int.toNat_natCast, h2]; omega
theorem widthS_zero (r : Int) : widthS r = 0 ↔ Utf8.valid r = false := by
  have hw := wd_pos (rn r)
  rcases rn_cases r with ⟨h1, h2⟩ | ⟨h1, h2⟩
  · unfold widthS
    rw [h2]
    by_cases h3 : r = 65533
    · subst h3; exact absurd h1 (by decide)
    · simp [h3, h1, fmb_lost]
  · have hok := rn_ok r
    have h4 := widthS_ok hok
    rw [← h2] at h4
    rw [h4, h1]; constructor
    · intro h; omega
    · intro h; cases h
theorem shr_bound (c e : Nat) (h : c ≤ 2147483647) : 0 ≤ (c : Int) / 2 ^ e ∧ (c : Int) / 2 ^ e ≤ 2147483647 := by
  have h1 := Int.ediv_le_self (a := (c : Int)) (2 ^ e) (by omega)
  have h2 : 0 ≤ (c : Int) / 2 ^ e := Int.ediv_nonneg (by omega) (Int.le_of_lt (Int.pow_pos (by decide)))
  omega
theorem shr_nat (c e q : Nat) (hq : 2 ^ e = q) : (c : Int) / 2 ^ e = ((c / q : Nat) : Int) := by subst hq; push_cast; rfl
theorem sq_ER3_1 {G : Prop} (h : G := by (repeat (first | (refine sp ?_; (repeat intro zzc)) | (refine iF 103 rfl ?_; refine w_callG Tryd.func103 ?_ (hs := tail_any _ (by first | omega | exact shr_bound _ _ (by omega)) _ _ _)) | (refine iF 96 rfl ?_; refine w_callG Tryd.func96 ?_ (hs := width_any _ _ _ _)))); exact WQ.q1 rfl) : G := h
theorem st_ER3_1 {G G' : Prop} (next : G') (h : Bx G' → G := by intro zzn; (first | ((refine st ?_; (repeat intro zzc)); (try ((first | (refine iF 103 rfl ?_; refine w_callG Tryd.func103 ?_ (hs := tail_any _ (by first | omega | exact shr_bound _ _ (by omega)) _ _ _)) | (refine iF 96 rfl ?_; refine w_callG Tryd.func96 ?_ (hs := width_any _ _ _ _)) | ((refine iDraw ?_; (first | refine WC.drawAll rfl (by decide +kernel) ?_ | refine WC.draw 1 rfl (by decide +kernel) ?_ | refine WC.draw 2 rfl (by decide +kernel) ?_ | refine WC.draw 3 rfl (by decide +kernel) ?_ | refine WC.draw 4 rfl (by decide +kernel) ?_ | refine WC.draw 5 rfl (by decide +kernel) ?_ | refine WC.draw 6 rfl (by decide +kernel) ?_ | refine WC.draw 7 rfl (by decide +kernel) ?_ | refine WC.draw 8 rfl (by decide +kernel) ?_ | refine WC.draw 9 rfl (by decide +kernel) ?_ | refine WC.draw 10 rfl (by decide +kernel) ?_ | refine WC.draw 11 rfl (by decide +kernel) ?_ | refine WC.draw 12 rfl (by decide +kernel) ?_ | refine WC.draw 13 rfl (by decide +kernel) ?_ | refine WC.draw 14 rfl (by decide +kernel) ?_ | refine WC.draw 15 rfl (by decide +kernel) ?_ | refine WC.draw 16 rfl (by decide +kernel) ?_ | refine WC.draw 17 rfl (by decide +kernel) ?_ | refine WC.draw 18 rfl (by decide +kernel) ?_ | refine WC.draw 19 rfl (by decide +kernel) ?_ | refine WC.draw 20 rfl (by decide +kernel) ?_ | refine WC.draw 21 rfl (by decide +kernel) ?_ | refine WC.draw 22 rfl (by decide +kernel) ?_ | refine WC.draw 23 rfl (by decide +kernel) ?_ | refine WC.draw 24 rfl (by decide +kernel) ?_)); (repeat (refine WD.cons rfl (fun c h => by cases h) sq_ER3_1 ?_)); refine WD.nil ?_)); (try (refine st ?_; (repeat intro zzc)))))) | ((first | (refine iF 103 rfl ?_; refine w_callG Tryd.func103 ?_ (hs := tail_any _ (by first | omega | exact shr_bound _ _ (by omega)) _ _ _)) | (refine iF 96 rfl ?_; refine w_callG Tryd.func96 ?_ (hs := width_any _ _ _ _)) | ((refine iDraw ?_; (first | refine WC.drawAll rfl (by decide +kernel) ?_ | refine WC.draw 1 rfl (by decide +kernel) ?_ | refine WC.draw 2 rfl (by decide +kernel) ?_ | refine WC.draw 3 rfl (by decide +kernel) ?_ | refine WC.draw 4 rfl (by decide +kernel) ?_ | refine WC.draw 5 rfl (by decide +kernel) ?_ | refine WC.draw 6 rfl (by decide +kernel) ?_ | refine WC.draw 7 rfl (by decide +kernel) ?_ | refine WC.draw 8 rfl (by decide +kernel) ?_ | refine WC.draw 9 rfl (by decide +kernel) ?_ | refine WC.draw 10 rfl (by decide +kernel) ?_ | refine WC.draw 11 rfl (by decide +kernel) ?_ | refine WC.draw 12 rfl (by decide +kernel) ?_ | refine WC.draw 13 rfl (by decide +kernel) ?_ | refine WC.draw 14 rfl (by decide +kernel) ?_ | refine WC.draw 15 rfl (by decide +kernel) ?_ | refine WC.draw 16 rfl (by decide +kernel) ?_ | refine WC.draw 17 rfl (by decide +kernel) ?_ | refine WC.draw 18 rfl (by decide +kernel) ?_ | refine WC.draw 19 rfl (by decide +kernel) ?_ | refine WC.draw 20 rfl (by decide +kernel) ?_ | refine WC.draw 21 rfl (by decide +kernel) ?_ | refine WC.draw 22 rfl (by decide +kernel) ?_ | refine WC.draw 23 rfl (by decide +kernel) ?_ | refine WC.draw 24 rfl (by decide +kernel) ?_)); (repeat (refine WD.cons rfl (fun c h => by cases h) sq_ER3_1 ?_)); refine WD.nil ?_)); (try (refine st ?_; (repeat intro zzc))))); (repeat ((first | (refine iF 103 rfl ?_; refine w_callG Tryd.func103 ?_ (hs := tail_any _ (by first | omega | exact shr_bound _ _ (by omega)) _ _ _)) | (refine iF 96 rfl ?_; refine w_callG Tryd.func96 ?_ (hs := width_any _ _ _ _)) | ((refine iDraw ?_; (first | refine WC.drawAll rfl (by decide +kernel) ?_ | refine WC.draw 1 rfl (by decide +kernel) ?_ | refine WC.draw 2 rfl (by decide +kernel) ?_ | refine WC.draw 3 rfl (by decide +kernel) ?_ | refine WC.draw 4 rfl (by decide +kernel) ?_ | refine WC.draw 5 rfl (by decide +kernel) ?_ | refine WC.draw 6 rfl (by decide +kernel) ?_ | refine WC.draw 7 rfl (by decide +kernel) ?_ | refine WC.draw 8 rfl (by decide +kernel) ?_ | refine WC.draw 9 rfl (by decide +kernel) ?_ | refine WC.draw 10 rfl (by decide +kernel) ?_ | refine WC.draw 11 rfl (by decide +kernel) ?_ | refine WC.draw 12 rfl (by decide +kernel) ?_ | refine WC.draw 13 rfl (by decide +kernel) ?_ | refine WC.draw 14 rfl (by decide +kernel) ?_ | refine WC.draw 15 rfl (by decide +kernel) ?_ | refine WC.draw 16 rfl (by decide +kernel) ?_ | refine WC.draw 17 rfl (by decide +kernel) ?_ | refine WC.draw 18 rfl (by decide +kernel) ?_ | refine WC.draw 19 rfl (by decide +kernel) ?_ | refine WC.draw 20 rfl (by decide +kernel) ?_ | refine WC.draw 21 rfl (by decide +kernel) ?_ | refine WC.draw 22 rfl (by decide +kernel) ?_ | refine WC.draw 23 rfl (by decide +kernel) ?_ | refine WC.draw 24 rfl (by decide +kernel) ?_)); (repeat (refine WD.cons rfl (fun c h => by cases h) sq_ER3_1 ?_)); refine WD.nil ?_)); (try (refine st ?_; (repeat intro zzc))))); (repeat revert zzc); exact zzn.out) : G := h ⟨next⟩
theorem encode_any (r : Int) (w0 : World) (m : Mem) (H : SHeap) : Does Tryd.prog 90 #[.int .i32 r] w0 m H (Gives (str (fmb (rn r))) m H) := by
  have hok := rn_ok r
  refine Does.of_body (args := [.int .i32 r]) Tryd.func90 rfl Tryd.ntmps90 rfl ?_
  have hz := widthS_zero r
  (try (refine st_ER3_1 ?_; intros))
  refine WC.join (fun r' ds' m' H' => r' = [(0, .int .i32 (rn r : Int)), (2, str [])] ∧ ds' = [] ∧ m' = m ∧ H' = H) ?_ ?_
  · (first | refine c_ways (fun h1 => ?_) (fun h1 => ?_) | refine c_nways (fun h1 => ?_) (fun h1 => ?_) | refine w_gways (fun h1 => ?_) (fun h1 => ?_) | refine w_gnways (fun h1 => ?_) (fun h1 => ?_))
    · rcases rn_cases r with ⟨hf, hr⟩ | ⟨hf, hr⟩
      · (try (refine st_ER3_1 ?_; intros))
        exact WQ.join ⟨rfl, rfl, rfl, rfl⟩ (Env.Sub.cons (by rw [hr]; rfl) (Env.Sub.cons rfl .nil)) (fun w h => h)
      · rw [hz, hf] at h1; cases h1
    · rcases rn_cases r with ⟨hf, hr⟩ | ⟨hf, hr⟩
      · exact absurd (hz.2 hf) h1
      · (try (refine st_ER3_1 ?_; intros))
        exact WQ.join ⟨rfl, rfl, rfl, rfl⟩ (Env.Sub.cons (by rw [← hr]; rfl) (Env.Sub.cons rfl .nil)) (fun w h => h)
  rintro _ _ _ _ ⟨rfl, rfl, rfl, rfl⟩
  generalize rn r = c at hok ⊢
  have hc := okr_le hok
  have fin : ∀ (L : List Nat), fm c = L → (∀ x ∈ L, x < 256) → L.map (fun x : Nat => Value.int .u8 (x : Int)) = (fmb c).map fun b => Value.int .u8 (b.toNat : Int) := by
    intro L hL hx
    unfold fmb
    rw [hL, List.map_map]
    apply List.map_congr_left
    intro x h
    have := hx x h
    simp; omega
  rcases (show c < 128 ∨ (128 ≤ c ∧ c < 2048) ∨ (2048 ≤ c ∧ c < 65536) ∨ 65536 ≤ c by omega) with h | h | h | h
  · (try (refine st_ER3_1 ?_; intros))
    apply WL.blkStr (s := fmb c)
    · exact rfl
    · (repeat (first | exact List.Mem.head _ | apply List.Mem.tail))
    · rw [← fin [c] (by unfold fm; rw [if_pos h]) (by simp; omega)]; rfl
    · rw [fmb_length]; unfold wd; rw [if_pos h]
    · exact rfl
    · exact rfl
    · exact rfl
    · exact rfl
    · exact rfl
    (try (refine st_ER3_1 ?_; intros))
    (refine q_fin0 ?_)
    exact Gives.mk rfl
  · (try (refine st_ER3_1 ?_; intros))
    apply WL.blkStr (s := fmb c)
    · exact rfl
    · (repeat (first | exact List.Mem.head _ | apply List.Mem.tail))
    · rw [← fin [0xC0 + c / 64, 0x80 + c % 64] (by unfold fm; rw [if_neg (by omega), if_pos h.2]) (by simp; omega)]
      have e3 : 192 ||| ((c : Int) / 64 % 256).toNat = 192 + c / 64 := by
        rw [show ((c : Int) / 64 % 256).toNat = c / 64 by omega]; exact or_add 5 6 (by decide) (by omega)
      simp [e3]
    · rw [fmb_length]; unfold wd; rw [if_neg (by omega), if_pos h.2]
    · exact rfl
    · exact rfl
    · exact rfl
    · exact rfl
    · exact rfl
    (try (refine st_ER3_1 ?_; intros))
    (refine q_fin0 ?_)
    exact Gives.mk rfl
  · (try (refine st_ER3_1 ?_; intros))
    apply WL.blkStr (s := fmb c)
    · exact rfl
    · (repeat (first | exact List.Mem.head _ | apply List.Mem.tail))
    · rw [← fin [0xE0 + c / 4096, 0x80 + c / 64 % 64, 0x80 + c % 64] (by unfold fm; rw [if_neg (by omega), if_neg (by omega), if_pos h.2]) (by simp; omega)]
      have e1 := shr_nat c 6 64 (by decide)
      have e2 := shr_nat c 12 4096 (by decide)
      have e3 : 224 ||| ((c : Int) / 4096 % 256).toNat = 224 + c / 4096 := by
        rw [show ((c : Int) / 4096 % 256).toNat = c / 4096 by omega]; exact or_add 4 14 (by decide) (by omega)
      simp [e3, e1, e2]
    · rw [fmb_length]; unfold wd; rw [if_neg (by omega), if_neg (by omega), if_pos h.2]
    · exact rfl
    · exact rfl
    · exact rfl
    · exact rfl
    · exact rfl
    (try (refine st_ER3_1 ?_; intros))
    (refine q_fin0 ?_)
    exact Gives.mk rfl
  · (try (refine st_ER3_1 ?_; intros))
    apply WL.blkStr (s := fmb c)
    · exact rfl
    · (repeat (first | exact List.Mem.head _ | apply List.Mem.tail))
    · rw [← fin [0xF0 + c / 262144, 0x80 + c / 4096 % 64, 0x80 + c / 64 % 64, 0x80 + c % 64] (by unfold fm; rw [if_neg (by omega), if_neg (by omega), if_neg (by omega)]) (by simp; omega)]
      have e1 := shr_nat c 6 64 (by decide)
      have e2 := shr_nat c 12 4096 (by decide)
      have e3 : 240 ||| ((c : Int) / 262144 % 256).toNat = 240 + c / 262144 := by
        rw [show ((c : Int) / 262144 % 256).toNat = c / 262144 by omega]; exact or_add 3 30 (by decide) (by omega)
      simp [e3, e1, e2]
    · rw [fmb_length]; unfold wd; rw [if_neg (by omega), if_neg (by omega), if_neg (by omega)]
    · exact rfl
    · exact rfl
    · exact rfl
    · exact rfl
    · exact rfl
    (try (refine st_ER3_1 ?_; intros))
    (refine q_fin0 ?_)
    exact Gives.mk rfl
end Go.Proofs.YtelgegefmjlimaaDoor

/-
  The walks of the program's reader: digit, part. No condition.
-/
namespace Go.Proofs.YtelgegefmjlimaaDoor
open Go Go.Eng
set_option maxRecDepth 100000
set_option maxHeartbeats 4000000
set_option linter.all false
attribute [local irreducible] WL WC WQ QFun QLoop Does Q1 QRound QAssign Go.Addr.add
attribute [local irreducible] hexV
theorem sq_EQ1_1 {G : Prop} (h : G := by (repeat (first | (refine sp ?_; (repeat intro zzc)) | (refine iF 102 rfl ?_; refine w_callG Tryd.func102 ?_ (hs := indexByte_any (gb_lt _ _))))); exact WQ.q1 rfl) : G := h
theorem st_EQ1_1 {G G' : Prop} (next : G') (h : Bx G' → G := by intro zzn; (first | ((refine st ?_; (repeat intro zzc)); (try ((first | (refine iF 102 rfl ?_; refine w_callG Tryd.func102 ?_ (hs := indexByte_any (gb_lt _ _))) | ((refine iDraw ?_; (first | refine WC.drawAll rfl (by decide +kernel) ?_ | refine WC.draw 1 rfl (by decide +kernel) ?_ | refine WC.draw 2 rfl (by decide +kernel) ?_ | refine WC.draw 3 rfl (by decide +kernel) ?_ | refine WC.draw 4 rfl (by decide +kernel) ?_ | refine WC.draw 5 rfl (by decide +kernel) ?_ | refine WC.draw 6 rfl (by decide +kernel) ?_ | refine WC.draw 7 rfl (by decide +kernel) ?_ | refine WC.draw 8 rfl (by decide +kernel) ?_ | refine WC.draw 9 rfl (by decide +kernel) ?_ | refine WC.draw 10 rfl (by decide +kernel) ?_ | refine WC.draw 11 rfl (by decide +kernel) ?_ | refine WC.draw 12 rfl (by decide +kernel) ?_ | refine WC.draw 13 rfl (by decide +kernel) ?_ | refine WC.draw 14 rfl (by decide +kernel) ?_ | refine WC.draw 15 rfl (by decide +kernel) ?_ | refine WC.draw 16 rfl (by decide +kernel) ?_ | refine WC.draw 17 rfl (by decide +kernel) ?_ | refine WC.draw 18 rfl (by decide +kernel) ?_ | refine WC.draw 19 rfl (by decide +kernel) ?_ | refine WC.draw 20 rfl (by decide +kernel) ?_ | refine WC.draw 21 rfl (by decide +kernel) ?_ | refine WC.draw 22 rfl (by decide +kernel) ?_ | refine WC.draw 23 rfl (by decide +kernel) ?_ | refine WC.draw 24 rfl (by decide +kernel) ?_)); (repeat (refine WD.cons rfl (fun c h => by cases h) sq_EQ1_1 ?_)); refine WD.nil ?_)); (try (refine st ?_; (repeat intro zzc)))))) | ((first | (refine iF 102 rfl ?_; refine w_callG Tryd.func102 ?_ (hs := indexByte_any (gb_lt _ _))) | ((refine iDraw ?_; (first | refine WC.drawAll rfl (by decide +kernel) ?_ | refine WC.draw 1 rfl (by decide +kernel) ?_ | refine WC.draw 2 rfl (by decide +kernel) ?_ | refine WC.draw 3 rfl (by decide +kernel) ?_ | refine WC.draw 4 rfl (by decide +kernel) ?_ | refine WC.draw 5 rfl (by decide +kernel) ?_ | refine WC.draw 6 rfl (by decide +kernel) ?_ | refine WC.draw 7 rfl (by decide +kernel) ?_ | refine WC.draw 8 rfl (by decide +kernel) ?_ | refine WC.draw 9 rfl (by decide +kernel) ?_ | refine WC.draw 10 rfl (by decide +kernel) ?_ | refine WC.draw 11 rfl (by decide +kernel) ?_ | refine WC.draw 12 rfl (by decide +kernel) ?_ | refine WC.draw 13 rfl (by decide +kernel) ?_ | refine WC.draw 14 rfl (by decide +kernel) ?_ | refine WC.draw 15 rfl (by decide +kernel) ?_ | refine WC.draw 16 rfl (by decide +kernel) ?_ | refine WC.draw 17 rfl (by decide +kernel) ?_ | refine WC.draw 18 rfl (by decide +kernel) ?_ | refine WC.draw 19 rfl (by decide +kernel) ?_ | refine WC.draw 20 rfl (by decide +kernel) ?_ | refine WC.draw 21 rfl (by decide +kernel) ?_ | refine WC.draw 22 rfl (by decide +kernel) ?_ | refine WC.draw 23 rfl (by decide +kernel) ?_ | refine WC.draw 24 rfl (by decide +kernel) ?_)); (repeat (refine WD.cons rfl (fun c h => by cases h) sq_EQ1_1 ?_)); refine WD.nil ?_)); (try (refine st ?_; (repeat intro zzc))))); (repeat ((first | (refine iF 102 rfl ?_; refine w_callG Tryd.func102 ?_ (hs := indexByte_any (gb_lt _ _))) | ((refine iDraw ?_; (first | refine WC.drawAll rfl (by decide +kernel) ?_ | refine WC.draw 1 rfl (by decide +kernel) ?_ | refine WC.draw 2 rfl (by decide +kernel) ?_ | refine WC.draw 3 rfl (by decide +kernel) ?_ | refine WC.draw 4 rfl (by decide +kernel) ?_ | refine WC.draw 5 rfl (by decide +kernel) ?_ | refine WC.draw 6 rfl (by decide +kernel) ?_ | refine WC.draw 7 rfl (by decide +kernel) ?_ | refine WC.draw 8 rfl (by decide +kernel) ?_ | refine WC.draw 9 rfl (by decide +kernel) ?_ | refine WC.draw 10 rfl (by decide +kernel) ?_ | refine WC.draw 11 rfl (by decide +kernel) ?_ | refine WC.draw 12 rfl (by decide +kernel) ?_ | refine WC.draw 13 rfl (by decide +kernel) ?_ | refine WC.draw 14 rfl (by decide +kernel) ?_ | refine WC.draw 15 rfl (by decide +kernel) ?_ | refine WC.draw 16 rfl (by decide +kernel) ?_ | refine WC.draw 17 rfl (by decide +kernel) ?_ | refine WC.draw 18 rfl (by decide +kernel) ?_ | refine WC.draw 19 rfl (by decide +kernel) ?_ | refine WC.draw 20 rfl (by decide +kernel) ?_ | refine WC.draw 21 rfl (by decide +kernel) ?_ | refine WC.draw 22 rfl (by decide +kernel) ?_ | refine WC.draw 23 rfl (by decide +kernel) ?_ | refine WC.draw 24 rfl (by decide +kernel) ?_)); (repeat (refine WD.cons rfl (fun c h => by cases h) sq_EQ1_1 ?_)); refine WD.nil ?_)); (try (refine st ?_; (repeat intro zzc))))); (repeat revert zzc); exact zzn.out) : G := h ⟨next⟩
theorem eDigit_any (b : Nat) (s : List UInt8) (a : Nat) (wr fr to : Int) (hs : s.length ≤ 1000000000) (ha : a ≤ s.length) (w0 : World) (m : Mem) (H : SHeap) :
    Does Tryd.prog 89 #[.pointer (some ⟨b, 0, none⟩)] w0 m (.blk b (.cells [str s, .int .i64 (a : Int), .int .i64 wr, .int .i64 fr, .int .i64 to].toArray 61 (0, 0)) :: H) (fun v m' H' => m' = m ∧ ((a < s.length ∧ 0 ≤ hexV (UInt8.ofNat (gb s a)) ∧ v = .tuple #[.int .i64 (hexV (UInt8.ofNat (gb s a))), .bool true] ∧ H' = .blk b (.cells [str s, .int .i64 ((a + 1 : Nat) : Int), .int .i64 wr, .int .i64 fr, .int .i64 to].toArray 61 (0, 0)) :: H) ∨
      (¬ (a < s.length ∧ 0 ≤ hexV (UInt8.ofNat (gb s a))) ∧ v = .tuple #[.int .i64 0, .bool false] ∧ H' = .blk b (.cells [str s, .int .i64 (a : Int), .int .i64 wr, .int .i64 fr, .int .i64 to].toArray 61 (0, 0)) :: H))) := by
  refine Does.of_body (args := [.pointer (some ⟨b, 0, none⟩)]) Tryd.func89 rfl Tryd.ntmps89 rfl ?_
  by_cases h1 : a < s.length
  · have h0 : ¬ (a : Int) = (s.length : Int) := by omega
    have hv := hexV_le (UInt8.ofNat (gb s a))
    have ea : (a : Int) + 1 = ((a + 1 : Nat) : Int) := by omega
    by_cases h2 : 0 ≤ hexV (UInt8.ofNat (gb s a))
    · (try (refine st_EQ1_1 ?_; intros))
      rw [ea]
      exact q_fin0 (H0 := .blk b (.cells [str s, .int .i64 ((a + 1 : Nat) : Int), .int .i64 wr, .int .i64 fr, .int .i64 to].toArray 61 (0, 0)) :: H) ⟨rfl, .inl ⟨h1, h2, rfl, rfl⟩⟩ (hd := zpk)
    · (try (refine st_EQ1_1 ?_; intros))
      exact q_fin0 (H0 := .blk b (.cells [str s, .int .i64 (a : Int), .int .i64 wr, .int .i64 fr, .int .i64 to].toArray 61 (0, 0)) :: H) ⟨rfl, .inr ⟨fun h => h2 h.2, rfl, rfl⟩⟩ (hd := zpk)
  · have h0 : (a : Int) = (s.length : Int) := by omega
    (try (refine st_EQ1_1 ?_; intros))
    exact q_fin0 (H0 := .blk b (.cells [str s, .int .i64 (a : Int), .int .i64 wr, .int .i64 fr, .int .i64 to].toArray 61 (0, 0)) :: H) ⟨rfl, .inr ⟨fun h => h1 h.1, rfl, rfl⟩⟩ (hd := zpk)
theorem sq_EQ1_2 {G : Prop} (h : G := by (repeat (first | (refine sp ?_; (repeat intro zzc)) | (refine iF 90 rfl ?_; refine w_callG Tryd.func90 ?_ (hs := encode_any _ _ _ _)) | (refine iF 28 rfl ?_; refine w_callG Tryd.func28 ?_ (hs := eIs_int zhs (by omega) (by omega) (by omega))))); exact WQ.q1 rfl) : G := h
theorem st_EQ1_2 {G G' : Prop} (next : G') (h : Bx G' → G := by intro zzn; (first | ((refine st ?_; (repeat intro zzc)); (try ((first | (refine iF 90 rfl ?_; refine w_callG Tryd.func90 ?_ (hs := encode_any _ _ _ _)) | (refine iF 28 rfl ?_; refine w_callG Tryd.func28 ?_ (hs := eIs_int zhs (by omega) (by omega) (by omega))) | ((refine iDraw ?_; (first | refine WC.drawAll rfl (by decide +kernel) ?_ | refine WC.draw 1 rfl (by decide +kernel) ?_ | refine WC.draw 2 rfl (by decide +kernel) ?_ | refine WC.draw 3 rfl (by decide +kernel) ?_ | refine WC.draw 4 rfl (by decide +kernel) ?_ | refine WC.draw 5 rfl (by decide +kernel) ?_ | refine WC.draw 6 rfl (by decide +kernel) ?_ | refine WC.draw 7 rfl (by decide +kernel) ?_ | refine WC.draw 8 rfl (by decide +kernel) ?_ | refine WC.draw 9 rfl (by decide +kernel) ?_ | refine WC.draw 10 rfl (by decide +kernel) ?_ | refine WC.draw 11 rfl (by decide +kernel) ?_ | refine WC.draw 12 rfl (by decide +kernel) ?_ | refine WC.draw 13 rfl (by decide +kernel) ?_ | refine WC.draw 14 rfl (by decide +kernel) ?_ | refine WC.draw 15 rfl (by decide +kernel) ?_ | refine WC.draw 16 rfl (by decide +kernel) ?_ | refine WC.draw 17 rfl (by decide +kernel) ?_ | refine WC.draw 18 rfl (by decide +kernel) ?_ | refine WC.draw 19 rfl (by decide +kernel) ?_ | refine WC.draw 20 rfl (by decide +kernel) ?_ | refine WC.draw 21 rfl (by decide +kernel) ?_ | refine WC.draw 22 rfl (by decide +kernel) ?_ | refine WC.draw 23 rfl (by decide +kernel) ?_ | refine WC.draw 24 rfl (by decide +kernel) ?_)); (repeat (refine WD.cons rfl (fun c h => by cases h) sq_EQ1_2 ?_)); refine WD.nil ?_)); (try (refine st ?_; (repeat intro zzc)))))) | ((first | (refine iF 90 rfl ?_; refine w_callG Tryd.func90 ?_ (hs := encode_any _ _ _ _)) | (refine iF 28 rfl ?_; refine w_callG Tryd.func28 ?_ (hs := eIs_int zhs (by omega) (by omega) (by omega))) | ((refine iDraw ?_; (first | refine WC.drawAll rfl (by decide +kernel) ?_ | refine WC.draw 1 rfl (by decide +kernel) ?_ | refine WC.draw 2 rfl (by decide +kernel) ?_ | refine WC.draw 3 rfl (by decide +kernel) ?_ | refine WC.draw 4 rfl (by decide +kernel) ?_ | refine WC.draw 5 rfl (by decide +kernel) ?_ | refine WC.draw 6 rfl (by decide +kernel) ?_ | refine WC.draw 7 rfl (by decide +kernel) ?_ | refine WC.draw 8 rfl (by decide +kernel) ?_ | refine WC.draw 9 rfl (by decide +kernel) ?_ | refine WC.draw 10 rfl (by decide +kernel) ?_ | refine WC.draw 11 rfl (by decide +kernel) ?_ | refine WC.draw 12 rfl (by decide +kernel) ?_ | refine WC.draw 13 rfl (by decide +kernel) ?_ | refine WC.draw 14 rfl (by decide +kernel) ?_ | refine WC.draw 15 rfl (by decide +kernel) ?_ | refine WC.draw 16 rfl (by decide +kernel) ?_ | refine WC.draw 17 rfl (by decide +kernel) ?_ | refine WC.draw 18 rfl (by decide +kernel) ?_ | refine WC.draw 19 rfl (by decide +kernel) ?_ | refine WC.draw 20 rfl (by decide +kernel) ?_ | refine WC.draw 21 rfl (by decide +kernel) ?_ | refine WC.draw 22 rfl (by decide +kernel) ?_ | refine WC.draw 23 rfl (by decide +kernel) ?_ | refine WC.draw 24 rfl (by decide +kernel) ?_)); (repeat (refine WD.cons rfl (fun c h => by cases h) sq_EQ1_2 ?_)); refine WD.nil ?_)); (try (refine st ?_; (repeat intro zzc))))); (repeat ((first | (refine iF 90 rfl ?_; refine w_callG Tryd.func90 ?_ (hs := encode_any _ _ _ _)) | (refine iF 28 rfl ?_; refine w_callG Tryd.func28 ?_ (hs := eIs_int zhs (by omega) (by omega) (by omega))) | ((refine iDraw ?_; (first | refine WC.drawAll rfl (by decide +kernel) ?_ | refine WC.draw 1 rfl (by decide +kernel) ?_ | refine WC.draw 2 rfl (by decide +kernel) ?_ | refine WC.draw 3 rfl (by decide +kernel) ?_ | refine WC.draw 4 rfl (by decide +kernel) ?_ | refine WC.draw 5 rfl (by decide +kernel) ?_ | refine WC.draw 6 rfl (by decide +kernel) ?_ | refine WC.draw 7 rfl (by decide +kernel) ?_ | refine WC.draw 8 rfl (by decide +kernel) ?_ | refine WC.draw 9 rfl (by decide +kernel) ?_ | refine WC.draw 10 rfl (by decide +kernel) ?_ | refine WC.draw 11 rfl (by decide +kernel) ?_ | refine WC.draw 12 rfl (by decide +kernel) ?_ | refine WC.draw 13 rfl (by decide +kernel) ?_ | refine WC.draw 14 rfl (by decide +kernel) ?_ | refine WC.draw 15 rfl (by decide +kernel) ?_ | refine WC.draw 16 rfl (by decide +kernel) ?_ | refine WC.draw 17 rfl (by decide +kernel) ?_ | refine WC.draw 18 rfl (by decide +kernel) ?_ | refine WC.draw 19 rfl (by decide +kernel) ?_ | refine WC.draw 20 rfl (by decide +kernel) ?_ | refine WC.draw 21 rfl (by decide +kernel) ?_ | refine WC.draw 22 rfl (by decide +kernel) ?_ | refine WC.draw 23 rfl (by decide +kernel) ?_ | refine WC.draw 24 rfl (by decide +kernel) ?_)); (repeat (refine WD.cons rfl (fun c h => by cases h) sq_EQ1_2 ?_)); refine WD.nil ?_)); (try (refine st ?_; (repeat intro zzc))))); (repeat revert zzc); exact zzn.out) : G := h ⟨next⟩
theorem digF_two (s : List UInt8) (a : Nat) : digF s 2 0 a = if a < s.length ∧ 0 ≤ hexV (UInt8.ofNat (gb s a)) then
    (if a + 1 < s.length ∧ 0 ≤ hexV (UInt8.ofNat (gb s (a + 1))) then (2, 16 * (hexV (UInt8.ofNat (gb s a))).toNat + (hexV (UInt8.ofNat (gb s (a + 1)))).toNat, a + 2) else (1, (hexV (UInt8.ofNat (gb s a))).toNat, a + 1)) else (0, 0, a) := by
  rw [digF]
  by_cases h : a < s.length ∧ 0 ≤ hexV (UInt8.ofNat (gb s a))
  · rw [if_pos h, if_pos h, digF]
    by_cases h2 : a + 1 < s.length ∧ 0 ≤ hexV (UInt8.ofNat (gb s (a + 1)))
    · rw [if_pos h2, if_pos h2, digF]; simp
    · rw [if_neg h2, if_neg h2]; simp
  · rw [if_neg h, if_neg h]
theorem take_one {s : List UInt8} {a : Nat} (h : a < s.length) : (s.take (a + 1)).drop a = [UInt8.ofNat (gb s a)] := by
  rw [List.drop_take, show a + 1 - a = 1 by omega, List.drop_eq_getElem_cons h]
  have : UInt8.ofNat (gb s a) = s[a] := by unfold gb; rw [List.getD_eq_getElem?_getD, List.getElem?_eq_getElem h]; simp
  rw [this]; rfl
theorem ePart_any (b : Nat) (s : List UInt8) (a : Nat) (wr fr to : Int) (hs : s.length ≤ 1000000000) (ha : a ≤ s.length) (w0 : World) (m : Mem) (H : SHeap) :
    Does Tryd.prog 75 #[.pointer (some ⟨b, 0, none⟩)] w0 m (.blk b (.cells [str s, .int .i64 (a : Int), .int .i64 wr, .int .i64 fr, .int .i64 to].toArray 61 (0, 0)) :: H) (fun v m' H' => m' = m ∧ ((∃ e t, partF s a = .yes e t ∧ v = .tuple #[str t, .bool true] ∧ H' = .blk b (.cells [str s, .int .i64 (e : Int), .int .i64 wr, .int .i64 fr, .int .i64 to].toArray 61 (0, 0)) :: H) ∨
      (∃ (w e : Nat), partF s a = .no w ∧ v = .tuple #[str [], .bool false] ∧ H' = .blk b (.cells [str s, .int .i64 (e : Int), .int .i64 (w : Int), .int .i64 fr, .int .i64 to].toArray 61 (0, 0)) :: H))) := by
  refine Does.of_body (args := [.pointer (some ⟨b, 0, none⟩)]) Tryd.func75 rfl Tryd.ntmps75 rfl ?_
  have ea : (a : Int) + 1 = ((a + 1 : Nat) : Int) := by omega
  have ea2 : ((a + 1 : Nat) : Int) - 1 = (a : Int) := by omega
  by_cases h1 : a < s.length ∧ (gb s a = 34 ∨ gb s a = 92)
  · have hp : partF s a = .yes (a + 1) [UInt8.ofNat (gb s a)] := by unfold partF; rw [if_pos h1]
    obtain ⟨hlt, h34⟩ := h1
    have et : (s.take (a + 1)).drop (((a + 1 : Nat) : Int) - 1).toNat = [UInt8.ofNat (gb s a)] := by rw [ea2, Int.toNat_natCast]; exact take_one hlt
    rcases h34 with h34 | h34
    all_goals
      (try (refine st_EQ1_2 ?_; intros))
      rw [ea]
      (try (refine st_EQ1_2 ?_; intros))
      rw [et]
      exact q_fin0 (H0 := .blk b (.cells [str s, .int .i64 ((a + 1 : Nat) : Int), .int .i64 wr, .int .i64 fr, .int .i64 to].toArray 61 (0, 0)) :: H) ⟨rfl, .inl ⟨a + 1, _, hp, rfl, rfl⟩⟩ (hd := zpk)
  · by_cases h2 : a < s.length ∧ gb s a = 120
    · have hp : partF s a = if (digF s 2 0 (a + 1)).1 < 2 then .no (digF s 2 0 (a + 1)).2.2 else .yes (digF s 2 0 (a + 1)).2.2 [UInt8.ofNat (digF s 2 0 (a + 1)).2.1] := by unfold partF; rw [if_neg h1, if_pos h2]
      have hD := digF_two s (a + 1)
      obtain ⟨hlt, h120⟩ := h2
      (try (refine st_EQ1_2 ?_; intros))
      rw [ea]
      refine w_callF Tryd.func89 ?_ (hs := eDigit_any b s (a + 1) wr fr to hs hlt _ _ _)
      rintro v m H1 ⟨rfl, (⟨g1, g2, rfl, rfl⟩ | ⟨g1, rfl, rfl⟩)⟩
      · rw [if_pos ⟨g1, g2⟩] at hD
        (try (refine st_EQ1_2 ?_; intros))
        refine w_callF Tryd.func89 ?_ (hs := eDigit_any b s (a + 1 + 1) wr fr to hs g1 _ _ _)
        rintro v m H1 ⟨rfl, (⟨g3, g4, rfl, rfl⟩ | ⟨g3, rfl, rfl⟩)⟩
        · rw [if_pos ⟨g3, g4⟩] at hD
          rw [hD, if_neg (show ¬ 2 < 2 from Nat.lt_irrefl 2)] at hp
          simp only at hp
          clear hD
          have v1 := hexV_le (UInt8.ofNat (gb s (a + 1)))
          have v2 := hexV_le (UInt8.ofNat (gb s (a + 1 + 1)))
          generalize hexV (UInt8.ofNat (gb s (a + 1))) = x at *
          generalize hexV (UInt8.ofNat (gb s (a + 1 + 1))) = y at *
          have eb : (16 * x + y) = ((UInt8.ofNat (16 * x.toNat + y.toNat)).toNat : Int) := by rw [UInt8.toNat_ofNat']; omega
          (refine st_EQ1_2 ?_; intros; rename_i q)
          rw [eb]
          refine WL.blkStr (s := [UInt8.ofNat (16 * x.toNat + y.toNat)]) rfl zhs rfl rfl rfl rfl rfl rfl rfl ?_
          (try (refine st_EQ1_2 ?_; intros))
          exact q_fin0 (H0 := .blk b (.cells [str s, .int .i64 ((a + 1 + 1 + 1 : Nat) : Int), .int .i64 wr, .int .i64 fr, .int .i64 to].toArray 61 (0, 0)) :: H) ⟨rfl, .inl ⟨a + 1 + 1 + 1, _, hp, rfl, rfl⟩⟩ (hd := zpk)
        · rw [if_neg g3] at hD
          rw [hD, if_pos (show 1 < 2 from by decide)] at hp
          (try (refine st_EQ1_2 ?_; intros))
          refine w_callF Tryd.func56 ?_ (hs := eFail_any b s (a + 1 + 1) wr fr to ((a + 1 + 1 : Nat) : Int) _ _ _)
          rintro v m H1 ⟨rfl, rfl, rfl⟩
          (try (refine st_EQ1_2 ?_; intros))
          exact q_fin0 (H0 := .blk b (.cells [str s, .int .i64 ((a + 1 + 1 : Nat) : Int), .int .i64 ((a + 1 + 1 : Nat) : Int), .int .i64 fr, .int .i64 to].toArray 61 (0, 0)) :: H) ⟨rfl, .inr ⟨a + 1 + 1, a + 1 + 1, hp, rfl, rfl⟩⟩ (hd := zpk)
      · rw [if_neg g1] at hD
        rw [hD, if_pos (show 0 < 2 from by decide)] at hp
        (try (refine st_EQ1_2 ?_; intros))
        refine w_callF Tryd.func56 ?_ (hs := eFail_any b s (a + 1) wr fr to ((a + 1 : Nat) : Int) _ _ _)
        rintro v m H1 ⟨rfl, rfl, rfl⟩
        (try (refine st_EQ1_2 ?_; intros))
        exact q_fin0 (H0 := .blk b (.cells [str s, .int .i64 ((a + 1 : Nat) : Int), .int .i64 ((a + 1 : Nat) : Int), .int .i64 fr, .int .i64 to].toArray 61 (0, 0)) :: H) ⟨rfl, .inr ⟨a + 1, a + 1, hp, rfl, rfl⟩⟩ (hd := zpk)
    · by_cases h3 : a < s.length ∧ gb s a = 123
      · have hp : partF s a = if (digF s 6 0 (a + 1)).1 = 0 ∨ ¬ ((digF s 6 0 (a + 1)).2.2 < s.length ∧ gb s (digF s 6 0 (a + 1)).2.2 = 125) then .no (digF s 6 0 (a + 1)).2.2 else .yes ((digF s 6 0 (a + 1)).2.2 + 1) (fmb (rn ((digF s 6 0 (a + 1)).2.1 : Int))) := by
          unfold partF; rw [if_neg h1, if_neg h2, if_pos h3]
        obtain ⟨hlt, h123⟩ := h3
        generalize hD0 : digF s 6 0 (a + 1) = D at hp
        (try (refine st_EQ1_2 ?_; intros))
        rw [ea]
        refine WC.loopH [(8, .int .i64 ((0) : Int)), (9, .int .i64 ((0) : Int)), (0, .pointer (some ⟨b, 0, none⟩))] ?_ ?_ (fun j r ds m' H' => ∃ (k : Nat) (n : Nat) (e : Nat), j = 6 - k ∧ r = [(8, .int .i64 (n : Int)), (9, .int .i64 (k : Int)), (0, .pointer (some ⟨b, 0, none⟩))] ∧ ds = [] ∧ m = m' ∧ H' = .blk b (.cells [str s, .int .i64 (e : Int), .int .i64 wr, .int .i64 fr, .int .i64 to].toArray 61 (0, 0)) :: H ∧ (k ≤ 6) ∧ (e ≤ s.length) ∧ (n + 1 ≤ 16 ^ k) ∧ (D = ((digF s (6 - k) n e).1 + k, (digF s (6 - k) n e).2))) (6 - (0)) ⟨0, 0, a + 1, rfl, rfl, rfl, rfl, rfl, Nat.zero_le _, hlt, by decide, by rw [← hD0]; rfl⟩ ?_
        · (repeat (first | exact Env.Sub.nil | refine Env.Sub.cons rfl ?_))
        · exact zpk
        rintro j r ds m' H' ⟨k, n, e, rfl, rfl, rfl, rfl, rfl, hk, hes, hnb, hD⟩
        have hp16 : 16 ^ k ≤ 16777216 := Nat.le_trans (Nat.pow_le_pow_right (by decide) hk) (by decide)
        have ee : (e : Int) + 1 = ((e + 1 : Nat) : Int) := by omega
        by_cases g0 : k < 6
        · obtain ⟨f, hf⟩ : ∃ f, 6 - k = f + 1 := ⟨6 - k - 1, by omega⟩
          rw [hf, digF] at hD
          have hp5 : 16 ^ k ≤ 1048576 := Nat.le_trans (Nat.pow_le_pow_right (by decide) (show k ≤ 5 by omega)) (by decide)
          have hv := hexV_le (UInt8.ofNat (gb s e))
          (try (refine st_EQ1_2 ?_; intros))
          refine w_callF Tryd.func89 ?_ (hs := eDigit_any b s e wr fr to hs hes _ _ _)
          rintro v m H1 ⟨rfl, (⟨g1, g2, rfl, rfl⟩ | ⟨g1, rfl, rfl⟩)⟩
          · rw [if_pos ⟨g1, g2⟩] at hD
            have e7 : 16 * (n : Int) + hexV (UInt8.ofNat (gb s e)) = ((16 * n + (hexV (UInt8.ofNat (gb s e))).toNat : Nat) : Int) := by omega
            (try (refine st_EQ1_2 ?_; intros))
            rw [e7]
            refine WQ.next (6 - (k + 1)) ⟨k + 1, 16 * n + (hexV (UInt8.ofNat (gb s e))).toNat, e + 1, rfl, rfl, rfl, rfl, rfl, ?_, ?_, ?_, ?_⟩ (by omega) zsb zpk
            · omega
            · omega
            · rw [Nat.pow_succ]; omega
            · rw [show 6 - (k + 1) = f by omega, hD]; simp; omega
          · rw [if_neg g1] at hD
            simp only [Nat.zero_add] at hD
            subst hD
            simp only at hp
            by_cases g2 : k = 0
            · rw [if_pos (.inl g2)] at hp
              (try (refine st_EQ1_2 ?_; intros))
              refine w_callF Tryd.func56 ?_ (hs := eFail_any b s e wr fr to (e : Int) _ _ _)
              rintro v m H1 ⟨rfl, rfl, rfl⟩
              (try (refine st_EQ1_2 ?_; intros))
              exact q_fin0 (H0 := .blk b (.cells [str s, .int .i64 (e : Int), .int .i64 (e : Int), .int .i64 fr, .int .i64 to].toArray 61 (0, 0)) :: H) ⟨rfl, .inr ⟨e, e, hp, rfl, rfl⟩⟩ (hd := zpk)
            · by_cases g3 : e < s.length ∧ gb s e = 125
              · rw [if_neg (fun h => h.elim g2 (fun h => h g3))] at hp
                have hn2 : (n : Int) ≤ 16777215 := by omega
                (try (refine st_EQ1_2 ?_; intros))
                rw [ee]
                exact q_fin0 (H0 := .blk b (.cells [str s, .int .i64 ((e + 1 : Nat) : Int), .int .i64 wr, .int .i64 fr, .int .i64 to].toArray 61 (0, 0)) :: H) ⟨rfl, .inl ⟨e + 1, _, hp, rfl, rfl⟩⟩ (hd := zpk)
              · rw [if_pos (.inr g3)] at hp
                (try (refine st_EQ1_2 ?_; intros))
                refine w_callF Tryd.func56 ?_ (hs := eFail_any b s e wr fr to (e : Int) _ _ _)
                rintro v m H1 ⟨rfl, rfl, rfl⟩
                (try (refine st_EQ1_2 ?_; intros))
                exact q_fin0 (H0 := .blk b (.cells [str s, .int .i64 (e : Int), .int .i64 (e : Int), .int .i64 fr, .int .i64 to].toArray 61 (0, 0)) :: H) ⟨rfl, .inr ⟨e, e, hp, rfl, rfl⟩⟩ (hd := zpk)
        · obtain rfl : k = 6 := by omega
          rw [Nat.sub_self, digF] at hD
          simp only [Nat.zero_add] at hD
          subst hD
          simp only at hp
          by_cases g3 : e < s.length ∧ gb s e = 125
          · rw [if_neg (fun h => h.elim (by decide) (fun h => h g3))] at hp
            have hn2 : (n : Int) ≤ 16777215 := by omega
            (try (refine st_EQ1_2 ?_; intros))
            rw [ee]
            exact q_fin0 (H0 := .blk b (.cells [str s, .int .i64 ((e + 1 : Nat) : Int), .int .i64 wr, .int .i64 fr, .int .i64 to].toArray 61 (0, 0)) :: H) ⟨rfl, .inl ⟨e + 1, _, hp, rfl, rfl⟩⟩ (hd := zpk)
          · rw [if_pos (.inr g3)] at hp
            (try (refine st_EQ1_2 ?_; intros))
            refine w_callF Tryd.func56 ?_ (hs := eFail_any b s e wr fr to (e : Int) _ _ _)
            rintro v m H1 ⟨rfl, rfl, rfl⟩
            (try (refine st_EQ1_2 ?_; intros))
            exact q_fin0 (H0 := .blk b (.cells [str s, .int .i64 (e : Int), .int .i64 (e : Int), .int .i64 fr, .int .i64 to].toArray 61 (0, 0)) :: H) ⟨rfl, .inr ⟨e, e, hp, rfl, rfl⟩⟩ (hd := zpk)
      · have hp : partF s a = .no a := by unfold partF; rw [if_neg h1, if_neg h2, if_neg h3]
        have g1 : ¬ (a < s.length ∧ gb s a = 34) := fun h => h1 ⟨h.1, .inl h.2⟩
        have g2 : ¬ (a < s.length ∧ gb s a = 92) := fun h => h1 ⟨h.1, .inr h.2⟩
        (try (refine st_EQ1_2 ?_; intros))
        refine w_callF Tryd.func56 ?_ (hs := eFail_any b s a wr fr to (a : Int) _ _ _)
        rintro v m H1 ⟨rfl, rfl, rfl⟩
        (try (refine st_EQ1_2 ?_; intros))
        exact q_fin0 (H0 := .blk b (.cells [str s, .int .i64 (a : Int), .int .i64 (a : Int), .int .i64 fr, .int .i64 to].toArray 61 (0, 0)) :: H) ⟨rfl, .inr ⟨a, a, hp, rfl, rfl⟩⟩ (hd := zpk)
end Go.Proofs.YtelgegefmjlimaaDoor

