/-
  Parts of a walk, joined: D53 D54 DT15 D55 D56 EngCP SSH D57 D58 ET1 ET2 ET3 ET4 ET5 ET6 ET7 ET8 ET9 ET10 ET11 ET12 ET13 ET14 ET31 ET15 DT12 DT13 DT16 DT17 DT18 EngPR D59a. No condition.
-/
import Derived.Test.YtgckeelnhafgaaaP7
import Derived.Test.YtgckeelnhafgaaaP4
import Derived.Test.YtgckeelnhafgaaaP5
import Derived.Shelf.Sort.Plain
import Derived.Shelf.Bits.Mul64
import Derived.Shelf.Slices.In.SortNone
import Derived.Test.YtgckeelnhafgaaaProg
import Derived.Test.YtgckeelnhafgaaaP1
import Derived.Test.YtgckeelnhafgaaaP6
import Derived.Test.YtgckeelnhafgaaaP2
set_option linter.all false
/-
  The walks of draft.name, Branch, Drop. No condition.
-/
namespace Go.Proofs.Ytgckeelnhafgaaa
open Go Go.Eng
set_option maxRecDepth 100000
set_option maxHeartbeats 4000000
set_option linter.all false
attribute [local irreducible] WL WC WQ QFun QLoop Does Q1 QRound QAssign Go.Addr.add
theorem name_any (s : Tx) (hs : s.length ≤ 9223372036854775807) (w0 : World) (m : Mem) (H : SHeap) : Does Try.prog 37 #[str s] w0 m H (Gives (.bool (dcd (NameOk s))) m H) := by
  refine Does.of_body (args := [str s]) Try.func37 rfl Try.ntmps37 rfl ?_
  by_cases h1 : s.length < 1
  · rw [dcd_false (fun h : NameOk s => by have := h.1; omega)]
    (try (refine st ?_; intros))
    exact q_fin0 (H0 := H) (Gives.mk rfl) (hd := zpk)
  by_cases h2 : 32 < s.length
  · rw [dcd_false (fun h : NameOk s => by have := h.2.1; omega)]
    (try (refine st ?_; intros))
    exact q_fin0 (H0 := H) (Gives.mk rfl) (hd := zpk)
  obtain ⟨c0, hc0⟩ : ∃ c, s[0]? = some c := ⟨_, List.getElem?_eq_getElem (by omega)⟩
  have hd0 : s.headD 0 = c0 := by
    cases s with
    | nil => simp at h1
    | cons x s => simpa using hc0
  have hg0 : gb s 0 = c0.toNat := by unfold gb; simp [hc0]
  by_cases h3 : c0.toNat < 97
  · rw [dcd_false (fun h : NameOk s => by have := h.2.2.1; rw [hd0] at this; omega)]
    (try (refine st ?_; intros))
    exact q_fin0 (H0 := H) (Gives.mk rfl) (hd := zpk)
  (try (refine st ?_; intros))
  refine WC.loopH [(20, .int .i64 ((0) : Int)), (19, .int .i64 (s.length : Int)), (0, str s)] ?_ ?_ (fun j r ds m' H' => ∃ i, j = s.length - i ∧ r = [(20, .int .i64 (i : Int)), (19, .int .i64 (s.length : Int)), (0, str s)] ∧ ds = [] ∧ m = m' ∧ H' = H ∧ (i ≤ s.length) ∧ (∀ c ∈ s.take i, NmB c.toNat)) (s.length - (0)) ⟨0, rfl, rfl, rfl, rfl, rfl, by omega, by intro c hc; simp at hc⟩ ?_
  · (repeat (first | exact Env.Sub.nil | refine Env.Sub.cons rfl ?_))
  · exact zpk
  rintro j r ds m' H' ⟨i, rfl, rfl, rfl, rfl, rfl, hi, hpre⟩
  by_cases hlt : i < s.length
  · obtain ⟨c, hc⟩ : ∃ c, s[i]? = some c := ⟨_, List.getElem?_eq_getElem hlt⟩
    have hg : gb s i = c.toNat := by unfold gb; simp [hc]
    have htk : s.take (i + 1) = s.take i ++ [c] := by rw [List.take_succ, hc]; rfl
    have hgood : NmB c.toNat → ∀ x ∈ s.take (i + 1), NmB x.toNat := by
      intro hb x hx
      rw [htk] at hx
      rcases List.mem_append.1 hx with h | h
      · exact hpre x h
      · rw [List.mem_singleton] at h; subst h; exact hb
    have hbad : ¬ NmB c.toNat → ¬ NameOk s := fun hb h => hb (h.2.2.2 c (List.mem_of_getElem? hc))
    have hcase : c.toNat < 45 ∨ c.toNat = 45 ∨ (45 < c.toNat ∧ c.toNat < 48) ∨ (48 ≤ c.toNat ∧ c.toNat ≤ 57) ∨ (57 < c.toNat ∧ c.toNat < 97) ∨ (97 ≤ c.toNat ∧ c.toNat ≤ 122) ∨ 122 < c.toNat := by omega
    rcases hcase with h | h | ⟨h, h'⟩ | ⟨h, h'⟩ | ⟨h, h'⟩ | ⟨h, h'⟩ | h
    · rw [dcd_false (hbad (by unfold NmB; omega))]
      (try (refine st ?_; intros))
      exact q_fin0 (H0 := H') (Gives.mk rfl) (hd := zpk)
    · (try (refine st ?_; intros))
      refine WQ.next (s.length - (i + 1)) ⟨i + 1, rfl, rfl, rfl, rfl, rfl, ?_, ?_⟩ (by omega) zsb zpk
      · omega
      · exact hgood (by unfold NmB; omega)
    · rw [dcd_false (hbad (by unfold NmB; omega))]
      (try (refine st ?_; intros))
      exact q_fin0 (H0 := H') (Gives.mk rfl) (hd := zpk)
    · (try (refine st ?_; intros))
      refine WQ.next (s.length - (i + 1)) ⟨i + 1, rfl, rfl, rfl, rfl, rfl, ?_, ?_⟩ (by omega) zsb zpk
      · omega
      · exact hgood (by unfold NmB; omega)
    · rw [dcd_false (hbad (by unfold NmB; omega))]
      (try (refine st ?_; intros))
      exact q_fin0 (H0 := H') (Gives.mk rfl) (hd := zpk)
    · (try (refine st ?_; intros))
      refine WQ.next (s.length - (i + 1)) ⟨i + 1, rfl, rfl, rfl, rfl, rfl, ?_, ?_⟩ (by omega) zsb zpk
      · omega
      · exact hgood (by unfold NmB; omega)
    · rw [dcd_false (hbad (by unfold NmB; omega))]
      (try (refine st ?_; intros))
      exact q_fin0 (H0 := H') (Gives.mk rfl) (hd := zpk)
  · rw [List.take_of_length_le (by omega)] at hpre
    rw [dcd_true (show NameOk s from ⟨by omega, by omega, by rw [hd0]; omega, hpre⟩)]
    (try (refine st ?_; intros))
    exact q_fin0 (H0 := H') (Gives.mk rfl) (hd := zpk)
/-- what Branch answers, and what the branches are then -/
def brErr (L : List Dr) (B : Br) (s : Tx) (k : Int) : Nat :=
  if (headB B s).isSome ∨ ¬ NameOk s then 280 else if ¬ (0 ≤ k ∧ k < (L.length : Int)) then 5 else if B.length = 32 then 3 else 0
theorem branch_any {bh bm cap c : Nat} {a : Option Addr} {L : List Dr} {B : Br} (s : Tx) (hs : s.length ≤ 9223372036854775807) (k : Int) (hB : B.length ≤ 32) (hL : L.length ≤ 256) (w0 : World) (m : Mem) (H : SHeap) :
    Does Try.prog 16 #[.pointer (some ⟨bh, 0, none⟩), str s, .int .i64 k] w0 m (.blk bh (.cells [.slice a L.length cap, .map (some bm)].toArray 66 (0, 0)) :: .row a cap 71 3 (drs L) :: .blk bm (mapT (brE B) c) :: H) (fun v m' H' => m' = m ∧ v = .int .i64 (brErr L B s k : Int) ∧
      H' = .blk bh (.cells [.slice a L.length cap, .map (some bm)].toArray 66 (0, 0)) :: .row a cap 71 3 (drs L) :: .blk bm (mapT (brE (if brErr L B s k = 0 then putB B c s k.toNat else B)) (if brErr L B s k = 0 then clkB B c s else c)) :: H) := by
  refine Does.of_body (args := [.pointer (some ⟨bh, 0, none⟩), str s, .int .i64 k]) Try.func16 rfl Try.ntmps16 rfl ?_
  have hsz : sizeB Try.prog 3 = some 1 := rfl
  (try (refine st ?_; intros))
  refine WL.lookT (es := brE B) (k := s) (z := .int .i64 0) rfl rfl zhs rfl rfl (fun _ => rfl) rfl ?_
  rw [getT_br]
  cases hh : headB B s with
  | some k0 =>
    have he : brErr L B s k = 280 := by unfold brErr; rw [if_pos (.inl (by rw [hh]; rfl))]
    simp only [Option.map_some, Option.getD_some, Option.isSome_some]
    rw [he, if_neg (by omega), if_neg (by omega)]
    (try (refine st ?_; intros))
    exact q_fin0 (H0 := .blk bh (.cells [.slice a L.length cap, .map (some bm)].toArray 66 (0, 0)) :: .row a cap 71 3 (drs L) :: .blk bm (mapT (brE B) c) :: H) ⟨rfl, rfl, rfl⟩ (hd := zpk)
  | none =>
    have hno : ¬ (headB B s).isSome = true := by rw [hh]; simp
    simp only [Option.map_none, Option.getD_none, Option.isSome_none]
    by_cases hn : NameOk s
    · by_cases hk : 0 ≤ k ∧ k < (L.length : Int)
      · by_cases hf : B.length = 32
        · have he : brErr L B s k = 3 := by unfold brErr; rw [if_neg (fun h => h.elim hno (fun h => h hn)), if_neg (fun h => h hk), if_pos hf]
          rw [he, if_neg (by omega), if_neg (by omega)]
          (try (refine st ?_; intros))
          refine w_callF Try.func37 ?_ (hs := name_any s hs _ _ _)
          rintro v m H1 ⟨rfl, rfl, rfl⟩
          rw [dcd_true hn]
          (try (refine st ?_; intros))
          refine w_callF Try.func23 ?_ (hs := is_mem k zhs)
          rintro v m H1 ⟨rfl, rfl, rfl⟩
          rw [dcd_true hk]
          (try (refine st ?_; intros))
          refine WL.lenMapT (es := brE B) rfl zhs rfl rfl ?_
          rw [brE_length]
          (try (refine st ?_; intros))
          exact q_fin0 (H0 := .blk bh (.cells [.slice a L.length cap, .map (some bm)].toArray 66 (0, 0)) :: .row a cap 71 3 (drs L) :: .blk bm (mapT (brE B) c) :: H) ⟨rfl, rfl, rfl⟩ (hd := zpk)
        · have he : brErr L B s k = 0 := by unfold brErr; rw [if_neg (fun h => h.elim hno (fun h => h hn)), if_neg (fun h => h hk), if_neg hf]
          rw [he, if_pos rfl, if_pos rfl]
          obtain ⟨q, rfl⟩ : ∃ q : Nat, k = (q : Int) := ⟨k.toNat, by omega⟩
          rw [Int.toNat_natCast, ← putM_br, ← putC_br]
          (try (refine st ?_; intros))
          refine w_callF Try.func37 ?_ (hs := name_any s hs _ _ _)
          rintro v m H1 ⟨rfl, rfl, rfl⟩
          rw [dcd_true hn]
          (try (refine st ?_; intros))
          refine w_callF Try.func23 ?_ (hs := is_mem (q : Int) zhs)
          rintro v m H1 ⟨rfl, rfl, rfl⟩
          rw [dcd_true hk]
          (try (refine st ?_; intros))
          refine WL.lenMapT (es := brE B) rfl zhs rfl rfl ?_
          rw [brE_length]
          (try (refine st ?_; intros))
          refine WL.putU (es := brE B) (k := s) rfl rfl rfl rfl rfl (by repeat (first | exact Repl.here | apply Repl.there)) ?_
          (try (refine st ?_; intros))
          exact q_fin0 (H0 := .blk bh (.cells [.slice a L.length cap, .map (some bm)].toArray 66 (0, 0)) :: .row a cap 71 3 (drs L) :: .blk bm (mapT (putM (brE B) c s (.int .i64 (q : Int))) (putC (brE B) c s)) :: H) ⟨rfl, rfl, rfl⟩ (hd := zpk)
      · have he : brErr L B s k = 5 := by unfold brErr; rw [if_neg (fun h => h.elim hno (fun h => h hn)), if_pos hk]
        rw [he, if_neg (by omega), if_neg (by omega)]
        (try (refine st ?_; intros))
        refine w_callF Try.func37 ?_ (hs := name_any s hs _ _ _)
        rintro v m H1 ⟨rfl, rfl, rfl⟩
        rw [dcd_true hn]
        (try (refine st ?_; intros))
        refine w_callF Try.func23 ?_ (hs := is_mem k zhs)
        rintro v m H1 ⟨rfl, rfl, rfl⟩
        rw [dcd_false hk]
        (try (refine st ?_; intros))
        exact q_fin0 (H0 := .blk bh (.cells [.slice a L.length cap, .map (some bm)].toArray 66 (0, 0)) :: .row a cap 71 3 (drs L) :: .blk bm (mapT (brE B) c) :: H) ⟨rfl, rfl, rfl⟩ (hd := zpk)
    · have he : brErr L B s k = 280 := by unfold brErr; rw [if_pos (.inr hn)]
      rw [he, if_neg (by omega), if_neg (by omega)]
      (try (refine st ?_; intros))
      refine w_callF Try.func37 ?_ (hs := name_any s hs _ _ _)
      rintro v m H1 ⟨rfl, rfl, rfl⟩
      rw [dcd_false hn]
      (try (refine st ?_; intros))
      exact q_fin0 (H0 := .blk bh (.cells [.slice a L.length cap, .map (some bm)].toArray 66 (0, 0)) :: .row a cap 71 3 (drs L) :: .blk bm (mapT (brE B) c) :: H) ⟨rfl, rfl, rfl⟩ (hd := zpk)
theorem drop_any {bh bm cap c : Nat} {a : Option Addr} {L : List Dr} {B : Br} (s : Tx) (w0 : World) (m : Mem) (H : SHeap) :
    Does Try.prog 17 #[.pointer (some ⟨bh, 0, none⟩), str s] w0 m (.blk bh (.cells [.slice a L.length cap, .map (some bm)].toArray 66 (0, 0)) :: .row a cap 71 3 (drs L) :: .blk bm (mapT (brE B) c) :: H) (fun v m' H' => m' = m ∧ v = .int .i64 ((if (headB B s).isSome then 0 else 4 : Nat) : Int) ∧
      H' = .blk bh (.cells [.slice a L.length cap, .map (some bm)].toArray 66 (0, 0)) :: .row a cap 71 3 (drs L) :: .blk bm (mapT (brE (eraseB B s)) c) :: H) := by
  refine Does.of_body (args := [.pointer (some ⟨bh, 0, none⟩), str s]) Try.func17 rfl Try.ntmps17 rfl ?_
  rw [← eraseT_br]
  (try (refine st ?_; intros))
  refine WL.lookT (es := brE B) (k := s) (z := .int .i64 0) rfl rfl zhs rfl rfl (fun _ => rfl) rfl ?_
  rw [getT_br]
  cases hh : headB B s with
  | some k0 =>
    simp only [Option.map_some, Option.getD_some, Option.isSome_some, if_true]
    (try (refine st ?_; intros))
    refine WL.deleteT (es := brE B) (k := s) rfl rfl rfl rfl (by repeat (first | exact Repl.here | apply Repl.there)) ?_
    (try (refine st ?_; intros))
    exact q_fin0 (H0 := .blk bh (.cells [.slice a L.length cap, .map (some bm)].toArray 66 (0, 0)) :: .row a cap 71 3 (drs L) :: .blk bm (mapT (eraseT (brE B) s) c) :: H) ⟨rfl, rfl, rfl⟩ (hd := zpk)
  | none =>
    simp only [Option.map_none, Option.getD_none, Option.isSome_none]
    have hx : eraseT (brE B) s = brE B := erase_noneT _ (by rw [getT_br, hh]; rfl)
    rw [hx]
    (try (refine st ?_; intros))
    exact q_fin0 (H0 := .blk bh (.cells [.slice a L.length cap, .map (some bm)].toArray 66 (0, 0)) :: .row a cap 71 3 (drs L) :: .blk bm (mapT (brE B) c) :: H) ⟨rfl, rfl, rfl⟩ (hd := zpk)
end Go.Proofs.Ytgckeelnhafgaaa

/-
  The walks of put, Commit, at, Text, Head of a history. No condition.
-/
namespace Go.Proofs.Ytgckeelnhafgaaa
open Go Go.Eng
set_option maxRecDepth 100000
set_option maxHeartbeats 4000000
set_option linter.all false
attribute [local irreducible] WL WC WQ QFun QLoop Does Q1 QRound QAssign Go.Addr.add
theorem put_any {bh bm cap c : Nat} {a : Option Addr} {L : List Dr} {B : Br} (s : Tx) (d : Dr) (hL : L.length ≤ 256) {sa : Option Addr} {sn sc : Nat} (hdv : d.v = .slice sa sn sc) (w0 : World) (m : Mem) (H : SHeap) :
    Does Try.prog 30 #[.pointer (some ⟨bh, 0, none⟩), str s, .agg (drE d).toArray] w0 m (.blk bh (.cells [.slice a L.length cap, .map (some bm)].toArray 66 (0, 0)) :: .row a cap 71 3 (drs L) :: .blk bm (mapT (brE B) c) :: H) (fun v m' H' => m' = m ∧ v = .int .i64 (L.length : Int) ∧ ∃ a' cap',
      H' = .blk bh (.cells [.slice a' (L ++ [d]).length cap', .map (some bm)].toArray 66 (0, 0)) :: .row a' cap' 71 3 (drs (L ++ [d])) :: .blk bm (mapT (brE (putB B c s L.length)) (clkB B c s)) :: H) := by
  refine Does.of_body (args := [.pointer (some ⟨bh, 0, none⟩), str s, .agg (drE d).toArray]) Try.func30 rfl Try.ntmps30 rfl ?_
  have hnl := drs_length L
  rw [← putM_br, ← putC_br, List.length_append, List.length_singleton, drs_snoc]
  unfold drE
  rw [hdv]
  generalize drs L = E at *
  (refine st ?_; intros; rename_i be)
  refine WC.drawE 10 ([.blk be (.cells [.int .i64 (d.h : Int), .slice sa sn sc, str d.t].toArray 71 (0, 0)), .blk bh (.cells [.slice a L.length cap, .map (some bm)].toArray 66 (0, 0)), .blk bm (mapT (brE B) c)]) (.row a cap 71 3 E :: H) rfl (by decide +kernel) zpk ?_
  (refine cm0 ?_)
  refine WE.act1 6 (by decide +kernel) rfl rfl (fun c h => by cases h) ?_
  (refine st ?_; intros; rename_i b9)
  refine WQ.acted (B := [.blk b9 (.cells [.int .i64 (d.h : Int), .slice sa sn sc, str d.t].toArray 71 (0, 0))]) (U := .row a cap 71 3 E :: H) rfl (Mem.le.refl _) zpk ?_
  (refine cm0 ?_)
  refine WE.act1 7 (by decide +kernel) rfl rfl (fun c h => by cases h) ?_
  (refine st ?_; intros; rename_i a2 cp2)
  refine WQ.acted (B := []) (U := .row a2 cp2 71 3 (E ++ [[.int .i64 (d.h : Int), .slice sa sn sc, str d.t]]) :: H) rfl (Mem.le.refl _) zpk ?_
  (refine cm0 ?_)
  refine WE.done (by decide +kernel) ?_
  (try (refine st ?_; intros))
  have hE : ((E.length + 1 : Nat) : Int) - 1 = (L.length : Int) := by omega
  rw [hE]
  refine WL.putU (es := brE B) (k := s) (v := .int .i64 (L.length : Int)) rfl rfl rfl rfl rfl (by repeat (first | exact Repl.here | apply Repl.there)) ?_
  (try (refine st ?_; intros))
  rw [hE, hnl]
  exact q_fin0 (H0 := .blk bh (.cells [.slice a2 (L.length + 1) cp2, .map (some bm)].toArray 66 (0, 0)) :: .row a2 cp2 71 3 (E ++ [[.int .i64 (d.h : Int), .slice sa sn sc, str d.t]]) :: .blk bm (mapT (putM (brE B) c s (.int .i64 (L.length : Int))) (putC (brE B) c s)) :: H) ⟨rfl, rfl, a2, cp2, rfl⟩ (hd := zpk)
/-- what Commit answers -/
def comErr (L : List Dr) (B : Br) (s : Tx) (hand : Int) (t : Tx) : Nat :=
  if (headB B s) = none then 4 else if hand < 0 ∨ 999999999999999999 < hand then 2 else if 65536 < t.length ∨ L.length = 256 then 3 else 0
theorem commit_any {bh bm cap c : Nat} {a : Option Addr} {L : List Dr} {B : Br} (s : Tx) (hand : Int) (t : Tx) (hL : L.length ≤ 256) (w0 : World) (m : Mem) (H : SHeap) :
    Does Try.prog 12 #[.pointer (some ⟨bh, 0, none⟩), str s, .int .i64 hand, str t] w0 m (.blk bh (.cells [.slice a L.length cap, .map (some bm)].toArray 66 (0, 0)) :: .row a cap 71 3 (drs L) :: .blk bm (mapT (brE B) c) :: H) (fun v m' H' => m.le m' ∧
      ((∃ e : Nat, comErr L B s hand t = e ∧ e ≠ 0 ∧ v = .tuple #[.int .i64 0, .int .i64 (e : Int)] ∧ m' = m ∧ H' = .blk bh (.cells [.slice a L.length cap, .map (some bm)].toArray 66 (0, 0)) :: .row a cap 71 3 (drs L) :: .blk bm (mapT (brE B) c) :: H) ∨
       (∃ (k : Nat) (d : Dr) (a' : Option Addr) (cap' : Nat), comErr L B s hand t = 0 ∧ v = .tuple #[.int .i64 (L.length : Int), .int .i64 0] ∧ headB B s = some k ∧ d.ps = [k] ∧ d.t = t ∧ (d.h : Int) = hand ∧ PsAt m' d ∧
         H' = .blk bh (.cells [.slice a' (L ++ [d]).length cap', .map (some bm)].toArray 66 (0, 0)) :: .row a' cap' 71 3 (drs (L ++ [d])) :: .blk bm (mapT (brE (putB B c s L.length)) (clkB B c s)) :: H))) := by
  refine Does.of_body (args := [.pointer (some ⟨bh, 0, none⟩), str s, .int .i64 hand, str t]) Try.func12 rfl Try.ntmps12 rfl ?_
  (try (refine st ?_; intros))
  refine WL.lookT (es := brE B) (k := s) (z := .int .i64 0) rfl rfl zhs rfl rfl (fun _ => rfl) rfl ?_
  rw [getT_br]
  cases hh : headB B s with
  | none =>
    have he : comErr L B s hand t = 4 := by unfold comErr; rw [if_pos hh]
    simp only [Option.map_none, Option.getD_none, Option.isSome_none]
    (try (refine st ?_; intros))
    exact q_fin0 (H0 := .blk bh (.cells [.slice a L.length cap, .map (some bm)].toArray 66 (0, 0)) :: .row a cap 71 3 (drs L) :: .blk bm (mapT (brE B) c) :: H) ⟨Mem.le.refl _, .inl ⟨4, he, by omega, rfl, rfl, rfl⟩⟩ (hd := zpk)
  | some k0 =>
    have hne : ¬ headB B s = none := by rw [hh]; simp
    simp only [Option.map_some, Option.getD_some, Option.isSome_some]
    by_cases h1 : hand < 0
    · have he : comErr L B s hand t = 2 := by unfold comErr; rw [if_neg hne, if_pos (.inl h1)]
      (try (refine st ?_; intros))
      exact q_fin0 (H0 := .blk bh (.cells [.slice a L.length cap, .map (some bm)].toArray 66 (0, 0)) :: .row a cap 71 3 (drs L) :: .blk bm (mapT (brE B) c) :: H) ⟨Mem.le.refl _, .inl ⟨2, he, by omega, rfl, rfl, rfl⟩⟩ (hd := zpk)
    by_cases h2 : 999999999999999999 < hand
    · have he : comErr L B s hand t = 2 := by unfold comErr; rw [if_neg hne, if_pos (.inr h2)]
      (try (refine st ?_; intros))
      exact q_fin0 (H0 := .blk bh (.cells [.slice a L.length cap, .map (some bm)].toArray 66 (0, 0)) :: .row a cap 71 3 (drs L) :: .blk bm (mapT (brE B) c) :: H) ⟨Mem.le.refl _, .inl ⟨2, he, by omega, rfl, rfl, rfl⟩⟩ (hd := zpk)
    have h12 : ¬ (hand < 0 ∨ 999999999999999999 < hand) := by omega
    obtain ⟨hd, rfl⟩ : ∃ q : Nat, hand = (q : Int) := ⟨hand.toNat, by omega⟩
    by_cases h3 : 65536 < t.length
    · have he : comErr L B s (hd : Int) t = 3 := by unfold comErr; rw [if_neg hne, if_neg h12, if_pos (.inl h3)]
      (refine st ?_; intros; rename_i b3)
      refine w_callF Try.func29 ?_ (hs := long_any (L := [t]) (by simp) (rowR_blk (T := 9) (fz := (0, 0)) (L := [str t]) zhs rfl (by simp [strs])))
      rintro v m H9 ⟨rfl, rfl, rfl⟩
      rw [dcd_true (show Long [t] from ⟨t, by simp, h3⟩)]
      (try (refine st ?_; intros))
      exact q_fin0 (H0 := .blk bh (.cells [.slice a L.length cap, .map (some bm)].toArray 66 (0, 0)) :: .row a cap 71 3 (drs L) :: .blk bm (mapT (brE B) c) :: H) ⟨Mem.le.refl _, .inl ⟨3, he, by omega, rfl, rfl, rfl⟩⟩ (hd := zpk)
    · have hnl : ¬ Long [t] := by rintro ⟨x, hx, hx2⟩; rw [List.mem_singleton] at hx; subst hx; omega
      by_cases h4 : L.length = 256
      · have he : comErr L B s (hd : Int) t = 3 := by unfold comErr; rw [if_neg hne, if_neg h12, if_pos (.inr h4)]
        (refine st ?_; intros; rename_i b3)
        refine w_callF Try.func29 ?_ (hs := long_any (L := [t]) (by simp) (rowR_blk (T := 9) (fz := (0, 0)) (L := [str t]) zhs rfl (by simp [strs])))
        rintro v m H9 ⟨rfl, rfl, rfl⟩
        rw [dcd_false hnl]
        (try (refine st ?_; intros))
        exact q_fin0 (H0 := .blk bh (.cells [.slice a L.length cap, .map (some bm)].toArray 66 (0, 0)) :: .row a cap 71 3 (drs L) :: .blk bm (mapT (brE B) c) :: H) ⟨Mem.le.refl _, .inl ⟨3, he, by omega, rfl, rfl, rfl⟩⟩ (hd := zpk)
      · have he : comErr L B s (hd : Int) t = 0 := by unfold comErr; rw [if_neg hne, if_neg h12, if_neg (by omega)]
        (refine st ?_; intros; rename_i b3)
        refine w_callF Try.func29 ?_ (hs := long_any (L := [t]) (by simp) (rowR_blk (T := 9) (fz := (0, 0)) (L := [str t]) zhs rfl (by simp [strs])))
        rintro v m H9 ⟨rfl, rfl, rfl⟩
        rw [dcd_false hnl]
        (refine st ?_; intros; rename_i b9)
        refine WL.persist (b := b9) (by (repeat (first | exact Out.here | apply Out.there))) ?_
        intro m2 hle hb9
        (try (refine st ?_; intros))
        refine WL.heap (H' := .blk bh (.cells [.slice a L.length cap, .map (some bm)].toArray 66 (0, 0)) :: .row a cap 71 3 (drs L) :: .blk bm (mapT (brE B) c) :: H) zpk ?_
        obtain ⟨d, hd1, hd2⟩ : ∃ d : Dr, d = ⟨hd, [k0], .slice (some ⟨b9, 0, none⟩) 1 1, t⟩ ∧ PsAt m2 d := ⟨_, rfl, PsAt.mem hb9 rfl⟩
        refine w_callF Try.func30 ?_ (hs := (by subst hd1; exact put_any s ⟨hd, [k0], .slice (some ⟨b9, 0, none⟩) 1 1, t⟩ hL rfl _ _ _))
        rintro v m3 H3 ⟨rfl, rfl, a', cap', rfl⟩
        (try (refine st ?_; intros))
        exact q_fin0 (H0 := .blk bh (.cells [.slice a' (L ++ [(⟨hd, [k0], .slice (some ⟨b9, 0, none⟩) 1 1, t⟩ : Dr)]).length cap', .map (some bm)].toArray 66 (0, 0)) :: .row a' cap' 71 3 (drs (L ++ [(⟨hd, [k0], .slice (some ⟨b9, 0, none⟩) 1 1, t⟩ : Dr)])) :: .blk bm (mapT (brE (putB B c s L.length)) (clkB B c s)) :: H)
          ⟨hle, .inr ⟨k0, ⟨hd, [k0], .slice (some ⟨b9, 0, none⟩) 1 1, t⟩, a', cap', he, rfl, rfl, rfl, rfl, rfl, hd1 ▸ hd2, rfl⟩⟩ (hd := zpk)
theorem atIn_any {bh bm cap : Nat} {a : Option Addr} {L : List Dr} {k : Nat} {d : Dr} (hk : L[k]? = some d) {sa : Option Addr} {sn sc : Nat} (hdv : d.v = .slice sa sn sc) (w0 : World) (m : Mem) (H : SHeap) :
    Does Try.prog 19 #[.pointer (some ⟨bh, 0, none⟩), .int .i64 (k : Int)] w0 m (.blk bh (.cells [.slice a L.length cap, .map (some bm)].toArray 66 (0, 0)) :: .row a cap 71 3 (drs L) :: H) (Gives (.tuple #[.agg (drE d).toArray, .int .i64 0]) m (.blk bh (.cells [.slice a L.length cap, .map (some bm)].toArray 66 (0, 0)) :: .row a cap 71 3 (drs L) :: H)) := by
  refine Does.of_body (args := [.pointer (some ⟨bh, 0, none⟩), .int .i64 (k : Int)]) Try.func19 rfl Try.ntmps19 rfl ?_
  have hkl : k < L.length := (List.getElem?_eq_some_iff.1 hk).1
  have hnl := drs_length L
  have hg := drs_get hk
  unfold drE at hg ⊢
  rw [hdv] at hg ⊢
  generalize drs L = E at *
  refine WC.rowSome zhs (by omega) ?_
  rintro a0 rfl
  (try (refine st ?_; intros))
  refine w_callF Try.func23 ?_ (hs := is_mem (k : Int) zhs)
  rintro v m H1 ⟨rfl, rfl, rfl⟩
  rw [dcd_true (show 0 ≤ (k : Int) ∧ (k : Int) < (L.length : Int) from by omega)]
  (try (refine st ?_; intros))
  exact q_fin0 (H0 := .blk bh (.cells [.slice (some a0) L.length cap, .map (some bm)].toArray 66 (0, 0)) :: .row (some a0) cap 71 3 E :: H) (Gives.mk rfl) (hd := zpk)
theorem textIn_any {bh bm cap : Nat} {a : Option Addr} {L : List Dr} {k : Nat} {d : Dr} (hk : L[k]? = some d) {sa : Option Addr} {sn sc : Nat} (hdv : d.v = .slice sa sn sc) (w0 : World) (m : Mem) (H : SHeap) :
    Does Try.prog 7 #[.pointer (some ⟨bh, 0, none⟩), .int .i64 (k : Int)] w0 m (.blk bh (.cells [.slice a L.length cap, .map (some bm)].toArray 66 (0, 0)) :: .row a cap 71 3 (drs L) :: H) (Gives (.tuple #[str d.t, .int .i64 0]) m (.blk bh (.cells [.slice a L.length cap, .map (some bm)].toArray 66 (0, 0)) :: .row a cap 71 3 (drs L) :: H)) := by
  refine Does.of_body (args := [.pointer (some ⟨bh, 0, none⟩), .int .i64 (k : Int)]) Try.func7 rfl Try.ntmps7 rfl ?_
  (try (refine st ?_; intros))
  refine w_callF Try.func19 ?_ (hs := atIn_any hk hdv _ _ _)
  rintro v m H1 ⟨rfl, rfl, rfl⟩
  unfold drE
  rw [hdv]
  (try (refine st ?_; intros))
  exact q_fin0 (H0 := .blk bh (.cells [.slice a L.length cap, .map (some bm)].toArray 66 (0, 0)) :: .row a cap 71 3 (drs L) :: H) (Gives.mk rfl) (hd := zpk)
end Go.Proofs.Ytgckeelnhafgaaa

/-
  A draft's line in plain: what the loop gathers; what lies in it; the base of two drafts. No condition.
-/
namespace Go.Eng
open Go
def addN (ks : List Nat) (p : Nat) : List Nat := if p ∈ ks then ks else ks ++ [p]
def parsOf (L : List Dr) (i : Nat) : List Nat := (L[i]?).elim [] (·.ps)
theorem parsOf_at {L : List Dr} {i : Nat} {d : Dr} (h : L[i]? = some d) : parsOf L i = d.ps := by unfold parsOf; rw [h]; rfl
def lnStep (L : List Dr) (ks : List Nat) (i : Nat) : List Nat := if i ∈ ks then (parsOf L i).foldl addN ks else ks
/-- what the loop gathers that goes down from n - 1 -/
def lnGo (L : List Dr) : Nat → List Nat → List Nat
  | 0, ks => ks
  | n + 1, ks => lnGo L n (lnStep L ks n)
def lineK (L : List Dr) (k : Nat) : List Nat := lnGo L (k + 1) [k]
def lnM (ks : List Nat) : List (Int × Value) := ks.map fun (k : Nat) => ((k : Int), .bool true)
theorem lnM_lookup (i : Nat) : ∀ (ks : List Nat), (lnM ks).lookup (i : Int) = if i ∈ ks then some (.bool true) else none
  | [] => by simp [lnM]
  | x :: ks => by
    show ((((x : Int), Value.bool true)) :: lnM ks).lookup (i : Int) = _
    rw [List.lookup_cons]
    by_cases h : i = x
    · subst h; simp
    · have hb : ((i : Int) == (x : Int)) = false := by simp; omega
      rw [hb, lnM_lookup i ks]
      simp [h]
theorem lnM_snoc (ks : List Nat) (p : Nat) : lnM (ks ++ [p]) = lnM ks ++ [((p : Int), .bool true)] := by unfold lnM; simp
theorem addN_mem {ks : List Nat} {p x : Nat} : x ∈ addN ks p ↔ x ∈ ks ∨ x = p := by
  unfold addN
  by_cases h : p ∈ ks
  · rw [if_pos h]
    exact ⟨.inl, fun h2 => h2.elim id (fun e => e ▸ h)⟩
  · rw [if_neg h]; simp
theorem addAll_mem {x : Nat} : ∀ {ps ks : List Nat}, x ∈ ps.foldl addN ks ↔ x ∈ ks ∨ x ∈ ps
  | [], ks => by simp
  | p :: ps, ks => by
    rw [List.foldl_cons, addAll_mem, addN_mem, List.mem_cons, or_assoc]
/-- x is y, or comes from y by parents -/
inductive Anc (L : List Dr) : Nat → Nat → Prop
  | self (x : Nat) : Anc L x x
  | up {x y p : Nat} : p ∈ parsOf L y → Anc L x p → Anc L x y
theorem lnStep_sub {L : List Dr} {ks : List Nat} {i x : Nat} (h : x ∈ ks) : x ∈ lnStep L ks i := by
  unfold lnStep
  split
  · exact addAll_mem.2 (.inl h)
  · exact h
/-- parents lie ahead -/
def Falls (L : List Dr) : Prop := ∀ i, ∀ p ∈ parsOf L i, p < i
theorem HsOk.falls {m : Mem} {L : List Dr} {B : Br} {c : Nat} (h : HsOk m L B c) : Falls L := by
  intro i p hp
  unfold parsOf at hp
  cases hi : L[i]? with
  | none => rw [hi] at hp; cases hp
  | some d => rw [hi] at hp; exact (h.par i d hi).1 p hp
/-- all that the loop gathers from n - 1 down: x is in it just if it was there or an ancestor (below n) of what was there below n -/
theorem lnGo_mem {L : List Dr} (hf : Falls L) {x : Nat} : ∀ {n : Nat} {ks : List Nat}, x ∈ lnGo L n ks ↔ x ∈ ks ∨ ∃ y ∈ ks, y < n ∧ Anc L x y
  | 0, ks => by
    show x ∈ ks ↔ _
    exact ⟨.inl, fun h => h.elim id (fun ⟨y, _, h, _⟩ => absurd h (by omega))⟩
  | n + 1, ks => by
    show x ∈ lnGo L n (lnStep L ks n) ↔ _
    rw [lnGo_mem hf]
    constructor
    · rintro (h | ⟨y, hy, hyn, ha⟩)
      · unfold lnStep at h
        split at h
        · next hn =>
          rcases addAll_mem.1 h with h | h
          · exact .inl h
          · exact .inr ⟨n, hn, by omega, .up h (.self x)⟩
        · exact .inl h
      · unfold lnStep at hy
        split at hy
        · next hn =>
          rcases addAll_mem.1 hy with h | h
          · exact .inr ⟨y, h, by omega, ha⟩
          · exact .inr ⟨n, hn, by omega, .up h ha⟩
        · exact .inr ⟨y, hy, by omega, ha⟩
    · rintro (h | ⟨y, hy, hyn, ha⟩)
      · exact .inl (lnStep_sub h)
      · by_cases hyn2 : y = n
        · subst hyn2
          cases ha with
          | self => exact .inl (lnStep_sub hy)
          | up hp ha =>
            refine .inr ⟨_, ?_, hf _ _ hp, ha⟩
            unfold lnStep
            rw [if_pos hy]
            exact addAll_mem.2 (.inr hp)
        · exact .inr ⟨y, lnStep_sub hy, by omega, ha⟩
theorem lineK_mem {L : List Dr} (hf : Falls L) {x k : Nat} : x ∈ lineK L k ↔ Anc L x k := by
  unfold lineK
  rw [lnGo_mem hf]
  constructor
  · rintro (h | ⟨y, hy, _, ha⟩)
    · rw [List.mem_singleton] at h; subst h; exact .self x
    · rw [List.mem_singleton] at hy; subst hy; exact ha
  · intro h
    exact .inr ⟨k, List.mem_singleton.2 rfl, by omega, h⟩
theorem Anc.le {L : List Dr} (hf : Falls L) {x y : Nat} (h : Anc L x y) : x ≤ y := by
  induction h with
  | self => exact Nat.le_refl _
  | up hp _ ih => exact Nat.le_trans ih (Nat.le_of_lt (hf _ _ hp))
theorem Anc.trans {L : List Dr} {x y z : Nat} (h1 : Anc L x y) (h2 : Anc L y z) : Anc L x z := by
  induction h2 with
  | self => exact h1
  | up hp _ ih => exact .up hp ih
/-- the first draft is in each line -/
theorem HsOk.root {m : Mem} {L : List Dr} {B : Br} {c : Nat} (h : HsOk m L B c) : ∀ (k : Nat), k < L.length → Anc L 0 k := by
  intro k
  induction k using Nat.strongRecOn with
  | _ k ih =>
    intro hk
    by_cases h0 : k = 0
    · subst h0; exact .self 0
    · obtain ⟨d, hd⟩ : ∃ d, L[k]? = some d := ⟨_, List.getElem?_eq_getElem hk⟩
      obtain ⟨h1, h2, _⟩ := h.par k d hd
      obtain ⟨p, hp⟩ := List.exists_mem_of_ne_nil _ (h2 (by omega))
      have hlt := h1 p hp
      exact .up (by rw [parsOf_at hd]; exact hp) (ih p hlt (by omega))
/-- the greatest number of n and below in two lists -/
def bothTop (xs ys : List Nat) : Nat → Nat
  | 0 => 0
  | n + 1 => if n + 1 ∈ xs ∧ n + 1 ∈ ys then n + 1 else bothTop xs ys n
def baseK (L : List Dr) (a b : Nat) : Nat := bothTop (lineK L a) (lineK L b) (min a b)
theorem bothTop_le {xs ys : List Nat} : ∀ {n : Nat}, bothTop xs ys n ≤ n
  | 0 => Nat.le_refl 0
  | n + 1 => by
    rw [bothTop]
    split
    · exact Nat.le_refl _
    · exact Nat.le_succ_of_le bothTop_le
end Go.Eng

/-
  The walks of a history's line, base, Base, Head. No condition.
-/
namespace Go.Proofs.Ytgckeelnhafgaaa
open Go Go.Eng
set_option maxRecDepth 100000
set_option maxHeartbeats 4000000
set_option linter.all false
attribute [local irreducible] WL WC WQ QFun QLoop Does Q1 QRound QAssign Go.Addr.add
attribute [local irreducible] lnM mapO lnGo lnStep
theorem line_any {bh bm cap : Nat} {a : Option Addr} {L : List Dr} {k : Nat} (hk : k < L.length) (hL : L.length ≤ 256) (w0 : World) (m : Mem) (H : SHeap) (hat : ∀ d ∈ L, PsAt m d) (hps : ∀ (i : Nat) (d : Dr), L[i]? = some d → d.ps.length ≤ 2) :
    Does Try.prog 24 #[.pointer (some ⟨bh, 0, none⟩), .int .i64 (k : Int)] w0 m (.blk bh (.cells [.slice a L.length cap, .map (some bm)].toArray 66 (0, 0)) :: .row a cap 71 3 (drs L) :: H) (fun v m' H' => m' = m ∧ ∃ b, v = .map (some b) ∧ H' = .blk b (mapO .i64 (lnM (lineK L k))) :: .blk bh (.cells [.slice a L.length cap, .map (some bm)].toArray 66 (0, 0)) :: .row a cap 71 3 (drs L) :: H) := by
  refine Does.of_body (args := [.pointer (some ⟨bh, 0, none⟩), .int .i64 (k : Int)]) Try.func24 rfl Try.ntmps24 rfl ?_
  have hnl := drs_length L
  have e0 : (lnM ([] : List Nat)) ++ [((k : Int), Value.bool true)] = lnM [k] := by unfold lnM; rfl
  have e1 : (lnM ([] : List Nat)) = [] := by unfold lnM; rfl
  (try (refine st ?_; intros))
  refine WL.makeMap .i64 rfl ?_
  intro bq
  (try (refine st ?_; intros))
  rw [← e1]
  refine WL.mapOne (q := .i64) (q' := .i64) (k := (k : Int)) (v := .bool true) rfl rfl rfl rfl rfl (by repeat (first | exact Repl.here | apply Repl.there)) (by rw [e1]; rfl) ?_
  rw [e0]
  (try (refine st ?_; intros))
  refine WC.loopH [(6, .int .i64 ((k : Int))), (5, .map (some bq)), (0, .pointer (some ⟨bh, 0, none⟩)), (1, .int .i64 (k : Int))] ?_ ?_ (fun j r ds m' H' => ∃ (n : _) (ks : List Nat) (z : Int), j = 2 * n ∧ r = [(6, .int .i64 z), (5, .map (some bq)), (0, .pointer (some ⟨bh, 0, none⟩)), (1, .int .i64 (k : Int))] ∧ ds = [] ∧ m = m' ∧ H' = .blk bq (mapO .i64 (lnM ks)) :: .blk bh (.cells [.slice a L.length cap, .map (some bm)].toArray 66 (0, 0)) :: .row a cap 71 3 (drs L) :: H ∧ (n ≤ k + 1) ∧ (z = (n : Int) - 1) ∧ (lnGo L n ks = lineK L k)) (2 * (k + 1)) ⟨k + 1, [k], (k : Int), rfl, rfl, rfl, rfl, rfl, by omega, by omega, by unfold lineK; rfl⟩ ?_
  · (repeat (first | exact Env.Sub.nil | refine Env.Sub.cons rfl ?_))
  · exact zpk
  rintro j r ds m' H' ⟨n, ks, z, rfl, rfl, rfl, rfl, rfl, hn, hz, hg⟩
  cases n with
  | zero =>
    have hz0 : z = -1 := by omega
    have hg0 : ks = lineK L k := by rw [← hg]; unfold lnGo; rfl
    subst hz0
    (try (refine st ?_; intros))
    rw [hg0]
    exact q_fin0 (H0 := .blk bq (mapO .i64 (lnM (lineK L k))) :: .blk bh (.cells [.slice a L.length cap, .map (some bm)].toArray 66 (0, 0)) :: .row a cap 71 3 (drs L) :: H) ⟨rfl, bq, rfl, rfl⟩ (hd := zpk)
  | succ n =>
    have hz0 : z = (n : Int) := by omega
    have hstep : lnGo L (n + 1) ks = lnGo L n (lnStep L ks n) := by rw [lnGo]
    rw [hstep] at hg
    subst hz0
    obtain ⟨d, hd⟩ : ∃ d, L[n]? = some d := ⟨_, List.getElem?_eq_getElem (by omega)⟩
    have hls : lnStep L ks n = if n ∈ ks then d.ps.foldl addN ks else ks := by unfold lnStep; rw [parsOf_at hd]
    rw [hls] at hg
    (try (refine st ?_; intros))
    refine WL.look1 (q := .i64) (q' := .i64) (k := (n : Int)) (z := .bool false) (kvs := lnM ks) rfl rfl zhs rfl rfl (fun _ => rfl) rfl ?_
    rw [lnM_lookup]
    by_cases hin : n ∈ ks
    · rw [if_pos hin] at hg ⊢
      obtain ⟨sa, sc, hv, hr⟩ := hat d (List.mem_of_getElem? hd)
      have hlen := hps n d hd
      have hgd := drs_get hd
      unfold drE at hgd
      rw [hv] at hgd
      have hnp := nums_length d.ps
      generalize hE : drs L = E at *
      simp only [Option.getD_some]
      refine WL.rowSome (a := a) zhs (by omega) ?_
      rintro a0 rfl
      (try (refine st ?_; intros))
      refine WC.loopH [(30, .int .i64 ((0) : Int)), (29, .int .i64 (d.ps.length : Int)), (28, .slice sa d.ps.length sc), (6, .int .i64 (n : Int)), (5, .map (some bq)), (0, .pointer (some ⟨bh, 0, none⟩)), (1, .int .i64 (k : Int))] ?_ ?_ (fun j r ds m' H' => ∃ (i : _) (ks2 : List Nat), j = d.ps.length - i ∧ r = [(30, .int .i64 (i : Int)), (29, .int .i64 (d.ps.length : Int)), (28, .slice sa d.ps.length sc), (6, .int .i64 (n : Int)), (5, .map (some bq)), (0, .pointer (some ⟨bh, 0, none⟩)), (1, .int .i64 (k : Int))] ∧ ds = [] ∧ m = m' ∧ H' = .blk bq (mapO .i64 (lnM ks2)) :: .blk bh (.cells [.slice (some a0) L.length cap, .map (some bm)].toArray 66 (0, 0)) :: .row (some a0) cap 71 3 E :: H ∧ (i ≤ d.ps.length) ∧ (ks2 = (d.ps.take i).foldl addN ks)) (d.ps.length - (0)) ⟨0, ks, rfl, rfl, rfl, rfl, rfl, by omega, by rw [List.take_zero]; rfl⟩ ?_
      · (repeat (first | exact Env.Sub.nil | refine Env.Sub.cons rfl ?_))
      · exact zpk
      rintro j r ds m' H' ⟨i, ks2, rfl, rfl, rfl, rfl, rfl, hi, hk2⟩
      by_cases hlt : i < d.ps.length
      · obtain ⟨p, hp⟩ : ∃ p, d.ps[i]? = some p := ⟨_, List.getElem?_eq_getElem hlt⟩
        have hgp := nums_get hp
        have hr' := hr w0 (.blk bq (mapO .i64 (lnM ks2)) :: .blk bh (.cells [.slice (some a0) L.length cap, .map (some bm)].toArray 66 (0, 0)) :: .row (some a0) cap 71 3 E :: H)
        have hk3 : addN ks2 p = (d.ps.take (i + 1)).foldl addN ks := by rw [List.take_succ, hp, List.foldl_append, ← hk2]; rfl
        generalize nums d.ps = NP at *
        refine WC.rSome hr' (by omega) ?_
        rintro s0 rfl
        (try (refine st ?_; intros))
        by_cases hp2 : p ∈ ks2
        · have hsame : addN ks2 p = ks2 := by unfold addN; rw [if_pos hp2]
          refine WL.mapSame (q := .i64) (q' := .i64) (k := (p : Int)) (v := .bool true) (kvs := lnM ks2) rfl rfl rfl zhs rfl rfl (by rw [lnM_lookup, if_pos hp2]) ?_
          (try (refine st ?_; intros))
          refine WQ.next (d.ps.length - (i + 1)) ⟨i + 1, ks2, rfl, rfl, rfl, rfl, rfl, ?_, ?_⟩ (by omega) zsb zpk
          · omega
          · rw [← hk3, hsame]
        · have hmore : lnM (addN ks2 p) = lnM ks2 ++ [((p : Int), .bool true)] := by unfold addN; rw [if_neg hp2, lnM_snoc]
          refine WL.mapNew (q := .i64) (q' := .i64) (k := (p : Int)) (v := .bool true) (kvs := lnM ks2) rfl rfl rfl rfl rfl (by repeat (first | exact Repl.here | apply Repl.there)) (by rw [lnM_lookup, if_neg hp2]) ?_
          rw [← hmore]
          (try (refine st ?_; intros))
          refine WQ.next (d.ps.length - (i + 1)) ⟨i + 1, addN ks2 p, rfl, rfl, rfl, rfl, rfl, ?_, ?_⟩ (by omega) zsb zpk
          · omega
          · exact hk3
      · rw [List.take_of_length_le (by omega)] at hk2
        rw [← hk2] at hg
        (try (refine st ?_; intros))
        refine WQ.next (2 * (n)) ⟨n, ks2, (n : Int) - 1, rfl, rfl, rfl, rfl, rfl, ?_, ?_, ?_⟩ (by omega) zsb zpk
        · omega
        · rfl
        · exact hg
    · rw [if_neg hin] at hg ⊢
      simp only [Option.getD_none]
      (try (refine st ?_; intros))
      refine WQ.next (2 * (n)) ⟨n, ks, (n : Int) - 1, rfl, rfl, rfl, rfl, rfl, ?_, ?_, ?_⟩ (by omega) zsb zpk
      · omega
      · rfl
      · exact hg
theorem base_any {bh bm cap : Nat} {a : Option Addr} {L : List Dr} {p q : Nat} (hp : p < L.length) (hq : q < L.length) (hL : L.length ≤ 256) (hp0 : 0 ∈ lineK L p) (hq0 : 0 ∈ lineK L q) (w0 : World) (m : Mem) (H : SHeap) (hat : ∀ d ∈ L, PsAt m d) (hps : ∀ (i : Nat) (d : Dr), L[i]? = some d → d.ps.length ≤ 2) :
    Does Try.prog 38 #[.pointer (some ⟨bh, 0, none⟩), .int .i64 (p : Int), .int .i64 (q : Int)] w0 m (.blk bh (.cells [.slice a L.length cap, .map (some bm)].toArray 66 (0, 0)) :: .row a cap 71 3 (drs L) :: H) (Gives (.int .i64 (baseK L p q : Int)) m (.blk bh (.cells [.slice a L.length cap, .map (some bm)].toArray 66 (0, 0)) :: .row a cap 71 3 (drs L) :: H)) := by
  refine Does.of_body (args := [.pointer (some ⟨bh, 0, none⟩), .int .i64 (p : Int), .int .i64 (q : Int)]) Try.func38 rfl Try.ntmps38 rfl ?_
  (try (refine st ?_; intros))
  refine w_callF Try.func24 ?_ (hs := line_any hp hL _ _ _ hat hps)
  rintro v m H1 ⟨rfl, bx, rfl, rfl⟩
  (try (refine st ?_; intros))
  refine WL.heap (H' := .blk bh (.cells [.slice a L.length cap, .map (some bm)].toArray 66 (0, 0)) :: .row a cap 71 3 (drs L) :: .blk bx (mapO .i64 (lnM (lineK L p))) :: H) zpk ?_
  refine w_callF Try.func24 ?_ (hs := line_any hq hL _ _ _ hat hps)
  rintro v m H1 ⟨rfl, by_, rfl, rfl⟩
  have hmin : min (p : Int) (q : Int) = ((min p q : Nat) : Int) := by omega
  have hbk : baseK L p q = bothTop (lineK L p) (lineK L q) (min p q) := rfl
  generalize lineK L p = X at *
  generalize lineK L q = Y at *
  (try (refine st ?_; intros))
  rw [hmin]
  refine WC.loopH [(9, .int .i64 (((min p q : Nat) : Int))), (7, .map (some bx)), (8, .map (some by_))] ?_ ?_ (fun j r ds m' H' => ∃ (n : _) (z : Int), j = 2 * n ∧ r = [(9, .int .i64 z), (7, .map (some bx)), (8, .map (some by_))] ∧ ds = [] ∧ m = m' ∧ H' = .blk by_ (mapO .i64 (lnM Y)) :: .blk bh (.cells [.slice a L.length cap, .map (some bm)].toArray 66 (0, 0)) :: .row a cap 71 3 (drs L) :: .blk bx (mapO .i64 (lnM X)) :: H ∧ (n ≤ min p q) ∧ (z = (n : Int)) ∧ (bothTop X Y n = baseK L p q)) (2 * (min p q)) ⟨min p q, ((min p q : Nat) : Int), rfl, rfl, rfl, rfl, rfl, by omega, by omega, by rw [hbk]⟩ ?_
  · (repeat (first | exact Env.Sub.nil | refine Env.Sub.cons rfl ?_))
  · exact zpk
  rintro j r ds m' H' ⟨n, z, rfl, rfl, rfl, rfl, rfl, hn, hz, hg⟩
  subst hz
  by_cases hx : n ∈ X
  · by_cases hy : n ∈ Y
    · have hres : baseK L p q = n := by
        rw [← hg]
        cases n with
        | zero => rfl
        | succ n => rw [bothTop, if_pos ⟨hx, hy⟩]
      (try (refine st ?_; intros))
      refine WL.look1 (q := .i64) (q' := .i64) (k := (n : Int)) (z := .bool false) (kvs := lnM X) rfl rfl zhs rfl rfl (fun _ => rfl) rfl ?_
      rw [lnM_lookup, if_pos hx]
      simp only [Option.getD_some]
      (try (refine st ?_; intros))
      refine WL.look1 (q := .i64) (q' := .i64) (k := (n : Int)) (z := .bool false) (kvs := lnM Y) rfl rfl zhs rfl rfl (fun _ => rfl) rfl ?_
      rw [lnM_lookup, if_pos hy]
      simp only [Option.getD_some]
      (try (refine st ?_; intros))
      rw [hres]
      exact q_fin0 (H0 := .blk bh (.cells [.slice a L.length cap, .map (some bm)].toArray 66 (0, 0)) :: .row a cap 71 3 (drs L) :: H) (Gives.mk rfl) (hd := zpk)
    · obtain ⟨n', rfl⟩ : ∃ n', n = n' + 1 := ⟨n - 1, by have : n ≠ 0 := (fun e => hy (e ▸ hq0)); omega⟩
      have hg' : bothTop X Y n' = baseK L p q := by rw [← hg, bothTop, if_neg (fun h => hy h.2)]
      (try (refine st ?_; intros))
      refine WL.look1 (q := .i64) (q' := .i64) (k := ((n' + 1 : Nat) : Int)) (z := .bool false) (kvs := lnM X) rfl rfl zhs rfl rfl (fun _ => rfl) rfl ?_
      rw [lnM_lookup, if_pos hx]
      simp only [Option.getD_some]
      (try (refine st ?_; intros))
      refine WL.look1 (q := .i64) (q' := .i64) (k := ((n' + 1 : Nat) : Int)) (z := .bool false) (kvs := lnM Y) rfl rfl zhs rfl rfl (fun _ => rfl) rfl ?_
      rw [lnM_lookup, if_neg hy]
      simp only [Option.getD_none]
      (try (refine st ?_; intros))
      refine WQ.next (2 * (n')) ⟨n', ((n' + 1 : Nat) : Int) - 1, rfl, rfl, rfl, rfl, rfl, ?_, ?_, ?_⟩ (by omega) zsb zpk
      · omega
      · omega
      · exact hg'
  · obtain ⟨n', rfl⟩ : ∃ n', n = n' + 1 := ⟨n - 1, by have : n ≠ 0 := (fun e => hx (e ▸ hp0)); omega⟩
    have hg' : bothTop X Y n' = baseK L p q := by rw [← hg, bothTop, if_neg (fun h => hx h.1)]
    (try (refine st ?_; intros))
    refine WL.look1 (q := .i64) (q' := .i64) (k := ((n' + 1 : Nat) : Int)) (z := .bool false) (kvs := lnM X) rfl rfl zhs rfl rfl (fun _ => rfl) rfl ?_
    rw [lnM_lookup, if_neg hx]
    simp only [Option.getD_none]
    (try (refine st ?_; intros))
    refine WQ.next (2 * (n')) ⟨n', ((n' + 1 : Nat) : Int) - 1, rfl, rfl, rfl, rfl, rfl, ?_, ?_, ?_⟩ (by omega) zsb zpk
    · omega
    · omega
    · exact hg'
end Go.Proofs.Ytgckeelnhafgaaa

/-
  The walk of a history's Merge. No condition.
-/
namespace Go.Eng
open Go Go.RowKit
theorem Does.gives_mem2 {P : Program} {w0 : World} {m : Mem} {H : SHeap} {f : FuncId} {args : Array Value} {v : Value} {i k : Item} (hi : i ∈ H) (hk : k ∈ H) (hne : i ≠ k) (h : ∀ H1, Does P f args w0 m (i :: k :: H1) (Gives v m (i :: k :: H1))) : Does P f args w0 m H (Gives v m H) := by
  intro w hs
  obtain ⟨H1, hp⟩ := hs.at_ hi
  have hk1 : k ∈ H1 := by
    rcases List.mem_cons.1 ((hp.mem_iff).1 hk) with e | e
    · exact absurd e.symm hne
    · exact e
  obtain ⟨H2, hp2⟩ := (hs.perm hp).drop.at_ hk1
  have hp3 : List.Perm H (i :: k :: H2) := hp.trans (List.Perm.cons _ hp2)
  refine (h H2 w (hs.perm hp3)).mono ?_
  rintro e w' ⟨v', m', H', he, ⟨rfl, rfl, rfl⟩, hs'⟩
  exact ⟨_, _, _, he, ⟨rfl, rfl, rfl⟩, hs'.perm hp3.symm⟩
end Go.Eng
namespace Go.Proofs.Ytgckeelnhafgaaa
open Go Go.Eng
set_option maxRecDepth 100000
set_option maxHeartbeats 4000000
set_option linter.all false
attribute [local irreducible] WL WC WQ QFun QLoop Does Q1 QRound QAssign Go.Addr.add
theorem base_mem {bh bm cap : Nat} {a : Option Addr} {L : List Dr} {p q : Nat} (hp : p < L.length) (hq : q < L.length) (hL : L.length ≤ 256) (hp0 : 0 ∈ lineK L p) (hq0 : 0 ∈ lineK L q) {w0 : World} {m : Mem} {H : SHeap} (hat : ∀ d ∈ L, PsAt m d) (hps : ∀ (i : Nat) (d : Dr), L[i]? = some d → d.ps.length ≤ 2)
    {E : List (List Value)} (hE : drs L = E) (h1 : Eng.Item.blk bh (.cells [.slice a L.length cap, .map (some bm)].toArray 66 (0, 0)) ∈ H) (h2 : Eng.Item.row a cap 71 3 E ∈ H) :
    Does Try.prog 38 #[.pointer (some ⟨bh, 0, none⟩), .int .i64 (p : Int), .int .i64 (q : Int)] w0 m H (Gives (.int .i64 (baseK L p q : Int)) m H) := by
  subst hE
  exact Does.gives_mem2 h1 h2 (fun h => by cases h) fun H1 => base_any hp hq hL hp0 hq0 w0 m H1 hat hps
/-- what Merge answers, where it refuses -/
def merErr (L : List Dr) (B : Br) (s u : Tx) (hand : Int) : Nat :=
  match headB B s, headB B u with
  | some k, some q => if hand < 0 ∨ 999999999999999999 < hand then 2 else if L.length = 256 then 3 else
      (wres (((L[baseK L k q]?).elim [] (·.t))) ((L[k]?).elim [] (·.t)) ((L[q]?).elim [] (·.t))).2.2
  | _, _ => 4
def merRes (L : List Dr) (k q : Nat) : Tx × List Cf × Nat := wres (((L[baseK L k q]?).elim [] (·.t))) ((L[k]?).elim [] (·.t)) ((L[q]?).elim [] (·.t))
theorem merge_any {bh bm cap c : Nat} {a : Option Addr} {L : List Dr} {B : Br} (s u : Tx) (hand : Int) (w0 : World) (m : Mem) (H : SHeap) (hok : HsOk m L B c) :
    Does Try.prog 18 #[.pointer (some ⟨bh, 0, none⟩), str s, str u, .int .i64 hand] w0 m (.blk bh (.cells [.slice a L.length cap, .map (some bm)].toArray 66 (0, 0)) :: .row a cap 71 3 (drs L) :: .blk bm (mapT (brE B) c) :: H) (fun v m' H' => m.le m' ∧ ∃ al cl, 
      ((∃ e : Nat, merErr L B s u hand = e ∧ e ≠ 0 ∧ v = .tuple #[.int .i64 0, .slice none 0 0, .int .i64 (e : Int)] ∧ H' = .blk bh (.cells [.slice a L.length cap, .map (some bm)].toArray 66 (0, 0)) :: .row a cap 71 3 (drs L) :: .blk bm (mapT (brE B) c) :: H) ∨
       (∃ (k q : Nat) (d : Dr) (a' : Option Addr) (cap' : Nat), merErr L B s u hand = 0 ∧ headB B s = some k ∧ headB B u = some q ∧ (merRes L k q).2.2 = 0 ∧
         v = .tuple #[.int .i64 (L.length : Int), .slice al (merRes L k q).2.1.length cl, .int .i64 0] ∧ d.ps = [k, q] ∧ d.t = (merRes L k q).1 ∧ (d.h : Int) = hand ∧ PsAt m' d ∧
         H' = .blk bh (.cells [.slice a' (L ++ [d]).length cap', .map (some bm)].toArray 66 (0, 0)) :: .row a' cap' 71 3 (drs (L ++ [d])) :: .blk bm (mapT (brE (putB B c s L.length)) (clkB B c s)) :: .row al cl 101 5 (cfs (merRes L k q).2.1) :: H))) := by
  refine Does.of_body (args := [.pointer (some ⟨bh, 0, none⟩), str s, str u, .int .i64 hand]) Try.func18 rfl Try.ntmps18 rfl ?_
  (try (refine st ?_; intros))
  refine WL.lookT (es := brE B) (k := s) (z := .int .i64 0) rfl rfl zhs rfl rfl (fun _ => rfl) rfl ?_
  rw [getT_br]
  cases hh : headB B s with
  | none =>
    have he : merErr L B s u hand = 4 := by unfold merErr; rw [hh]
    simp only [Option.map_none, Option.getD_none, Option.isSome_none]
    (try (refine st ?_; intros))
    refine WL.lookT (es := brE B) (k := u) (z := .int .i64 0) rfl rfl zhs rfl rfl (fun _ => rfl) rfl ?_
    rw [getT_br]
    obtain ⟨z2, hz2⟩ : ∃ z : Int, (Option.map (fun (k : Nat) => Value.int .i64 (k : Int)) (headB B u)).getD (.int .i64 0) = .int .i64 z := by
      cases headB B u with
      | none => exact ⟨0, rfl⟩
      | some k => exact ⟨(k : Int), rfl⟩
    rw [hz2]
    (try (refine st ?_; intros))
    exact q_fin0 (H0 := .blk bh (.cells [.slice a L.length cap, .map (some bm)].toArray 66 (0, 0)) :: .row a cap 71 3 (drs L) :: .blk bm (mapT (brE B) c) :: H) ⟨Mem.le.refl _, none, 0, .inl ⟨4, he, by omega, rfl, rfl⟩⟩ (hd := zpk)
  | some k0 =>
    simp only [Option.map_some, Option.getD_some, Option.isSome_some]
    (try (refine st ?_; intros))
    refine WL.lookT (es := brE B) (k := u) (z := .int .i64 0) rfl rfl zhs rfl rfl (fun _ => rfl) rfl ?_
    rw [getT_br]
    cases hu : headB B u with
    | none =>
      have he : merErr L B s u hand = 4 := by unfold merErr; rw [hh, hu]
      simp only [Option.map_none, Option.getD_none, Option.isSome_none]
      (try (refine st ?_; intros))
      exact q_fin0 (H0 := .blk bh (.cells [.slice a L.length cap, .map (some bm)].toArray 66 (0, 0)) :: .row a cap 71 3 (drs L) :: .blk bm (mapT (brE B) c) :: H) ⟨Mem.le.refl _, none, 0, .inl ⟨4, he, by omega, rfl, rfl⟩⟩ (hd := zpk)
    | some q0 =>
      simp only [Option.map_some, Option.getD_some, Option.isSome_some]
      by_cases h1 : hand < 0
      · have he : merErr L B s u hand = 2 := by unfold merErr; rw [hh, hu]; exact if_pos (.inl h1)
        (try (refine st ?_; intros))
        exact q_fin0 (H0 := .blk bh (.cells [.slice a L.length cap, .map (some bm)].toArray 66 (0, 0)) :: .row a cap 71 3 (drs L) :: .blk bm (mapT (brE B) c) :: H) ⟨Mem.le.refl _, none, 0, .inl ⟨2, he, by omega, rfl, rfl⟩⟩ (hd := zpk)
      by_cases h2 : 999999999999999999 < hand
      · have he : merErr L B s u hand = 2 := by unfold merErr; rw [hh, hu]; exact if_pos (.inr h2)
        (try (refine st ?_; intros))
        exact q_fin0 (H0 := .blk bh (.cells [.slice a L.length cap, .map (some bm)].toArray 66 (0, 0)) :: .row a cap 71 3 (drs L) :: .blk bm (mapT (brE B) c) :: H) ⟨Mem.le.refl _, none, 0, .inl ⟨2, he, by omega, rfl, rfl⟩⟩ (hd := zpk)
      have h12 : ¬ (hand < 0 ∨ 999999999999999999 < hand) := by omega
      obtain ⟨hd, rfl⟩ : ∃ q : Nat, hand = (q : Int) := ⟨hand.toNat, by omega⟩
      have hL := hok.few
      by_cases h4 : L.length = 256
      · have he : merErr L B s u (hd : Int) = 3 := by unfold merErr; rw [hh, hu]; simp only []; rw [if_neg h12, if_pos h4]
        (try (refine st ?_; intros))
        exact q_fin0 (H0 := .blk bh (.cells [.slice a L.length cap, .map (some bm)].toArray 66 (0, 0)) :: .row a cap 71 3 (drs L) :: .blk bm (mapT (brE B) c) :: H) ⟨Mem.le.refl _, none, 0, .inl ⟨3, he, by omega, rfl, rfl⟩⟩ (hd := zpk)
      have hk0 : k0 < L.length := hok.head hh
      have hq0 : q0 < L.length := hok.head hu
      have hb0 : baseK L k0 q0 < L.length := by
        have := bothTop_le (xs := lineK L k0) (ys := lineK L q0) (n := min k0 q0)
        unfold baseK; omega
      obtain ⟨dk, hdk⟩ : ∃ d, L[k0]? = some d := ⟨_, List.getElem?_eq_getElem hk0⟩
      obtain ⟨dq, hdq⟩ : ∃ d, L[q0]? = some d := ⟨_, List.getElem?_eq_getElem hq0⟩
      obtain ⟨db, hdb⟩ : ∃ d, L[baseK L k0 q0]? = some d := ⟨_, List.getElem?_eq_getElem hb0⟩
      have hmr : merRes L k0 q0 = wres db.t dk.t dq.t := by unfold merRes; rw [hdk, hdq, hdb]; rfl
      have he : merErr L B s u (hd : Int) = (wres db.t dk.t dq.t).2.2 := by unfold merErr; rw [hh, hu]; simp only []; rw [if_neg h12, if_neg h4, hdk, hdq, hdb]; rfl
      have hgk := drs_get hdk
      have hgq := drs_get hdq
      have hgb := drs_get hdb
      unfold drE at hgk hgq hgb
      have hnl := drs_length L
      have hf := hok.falls
      have hk00 : 0 ∈ lineK L k0 := (lineK_mem hf).2 (hok.root k0 hk0)
      have hq00 : 0 ∈ lineK L q0 := (lineK_mem hf).2 (hok.root q0 hq0)
      have hat := hok.at_
      have hps : ∀ (i : Nat) (d : Dr), L[i]? = some d → d.ps.length ≤ 2 := fun i d hd => (hok.par i d hd).2.2.1
      generalize hE : drs L = E at *
      have hbase : ∀ (w0 : World) (m2 : Mem) (H : SHeap), m.le m2 → Eng.Item.blk bh (.cells [.slice a L.length cap, .map (some bm)].toArray 66 (0, 0)) ∈ H → Eng.Item.row a cap 71 3 E ∈ H → Does Try.prog 38 #[.pointer (some ⟨bh, 0, none⟩), .int .i64 (k0 : Int), .int .i64 (q0 : Int)] w0 m2 H (Gives (.int .i64 (baseK L k0 q0 : Int)) m2 H) :=
        fun w0 m2 H hm2 h1 h2 => base_mem hk0 hq0 hL hk00 hq00 (fun d hd => (hat d hd).le hm2) hps hE h1 h2
      generalize hbb : baseK L k0 q0 = b0 at *
      refine WL.rowSome (a := a) zhs (by omega) ?_
      rintro a0 rfl
      (try (refine st ?_; intros))
      refine WC.drawE 35 ([.blk bh (.cells [.slice (some a0) L.length cap, .map (some bm)].toArray 66 (0, 0)), .row (some a0) cap 71 3 E, .blk bm (mapT (brE B) c)]) (H) rfl (by decide +kernel) zpk ?_
      (refine cm0 ?_)
      (refine WE.calm 7 (by decide +kernel) rfl rfl (by decide +kernel) rfl (fun c h => by cases h) (by intro zm zF zle; refine w_callF Try.func38 ?_ (hs := hbase _ _ _ zle zhs zhs); rintro _ _ _ ⟨rfl, rfl, rfl⟩; ((repeat (refine sp ?_; intros)); exact WQ.q1 rfl)) ?_)
      (refine cm0 ?_)
      generalize hW : wres db.t dk.t dq.t = W at *
      refine WE.act1 27 (by decide +kernel) rfl rfl (fun c h => by cases h) ?_
      refine w_callF Try.func13 ?_ (hs := weave_any db.t dk.t dq.t _ _ _)
      rintro v m2 H2 ⟨hle2, al, cl, rfl, rfl⟩
      rw [hW]
      (try (refine st ?_; intros))
      skip
      refine WQ.acted (B := [.row al cl 101 5 (cfs W.2.1)]) (U := H) rfl hle2 zpk ?_
      (refine cm0 ?_)
      refine WE.done (by decide +kernel) ?_
      (try (refine st ?_; intros))
      by_cases hw0 : W.2.2 = 0
      · have hw0' : ((W.2.2 : Nat) : Int) = 0 := by omega
        (refine st ?_; intros; rename_i b9)
        refine WL.persist (b := b9) (by (repeat (first | exact Out.here | apply Out.there))) ?_
        intro m3 hle3 hb9
        (try (refine st ?_; intros))
        subst hE
        refine WL.heap (H' := .blk bh (.cells [.slice (some a0) L.length cap, .map (some bm)].toArray 66 (0, 0)) :: .row (some a0) cap 71 3 (drs L) :: .blk bm (mapT (brE B) c) :: .row al cl 101 5 (cfs W.2.1) :: H) zpk ?_
        refine w_callF Try.func30 ?_ (hs := (put_any s ⟨hd, [k0, q0], .slice (some ⟨b9, 0, none⟩) 2 2, W.1⟩ hL rfl _ _ _))
        rintro v m4 H3 ⟨rfl, rfl, a', cap', rfl⟩
        (try (refine st ?_; intros))
        exact q_fin0 (H0 := .blk bh (.cells [.slice a' (L ++ [(⟨hd, [k0, q0], .slice (some ⟨b9, 0, none⟩) 2 2, W.1⟩ : Dr)]).length cap', .map (some bm)].toArray 66 (0, 0)) :: .row a' cap' 71 3 (drs (L ++ [(⟨hd, [k0, q0], .slice (some ⟨b9, 0, none⟩) 2 2, W.1⟩ : Dr)])) :: .blk bm (mapT (brE (putB B c s L.length)) (clkB B c s)) :: .row al cl 101 5 (cfs W.2.1) :: H)
          ⟨hle2.trans hle3, al, cl, .inr ⟨k0, q0, ⟨hd, [k0, q0], .slice (some ⟨b9, 0, none⟩) 2 2, W.1⟩, a', cap', by rw [he, hw0], rfl, rfl, by rw [hmr, hw0], by rw [hmr], rfl, by rw [hmr], rfl, PsAt.mem hb9 rfl, by rw [hmr]⟩⟩ (hd := zpk)
      · have hw0' : ¬ ((W.2.2 : Nat) : Int) = 0 := by omega
        (try (refine st ?_; intros))
        exact q_fin0 (H0 := .blk bh (.cells [.slice (some a0) L.length cap, .map (some bm)].toArray 66 (0, 0)) :: .row (some a0) cap 71 3 E :: .blk bm (mapT (brE B) c) :: H) ⟨hle2, none, 0, .inl ⟨W.2.2, he, hw0, rfl, rfl⟩⟩ (hd := zpk)
end Go.Proofs.Ytgckeelnhafgaaa

/-
  A walk's engine: what is copied into a block, from a slice that may be read (the same block, too). No condition.
-/
set_option linter.all false
namespace Go.Eng
open Go Go.RowKit
theorem RowR.take {w0 : World} {m : Mem} {H : SHeap} {sz : Nat} {a : Option Addr} {es : List (List Value)} (h : RowR w0 m H sz a es) (n : Nat) : RowR w0 m H sz a (es.take n) := by
  intro w hs
  obtain ⟨h1, h2⟩ := h w hs
  refine ⟨fun e he => h1 e (List.mem_of_mem_take he), ?_⟩
  cases a with
  | none => simp only at h2 ⊢; subst h2; exact List.take_nil
  | some b =>
    simp only at h2 ⊢
    intro j v hj
    refine h2 j v ?_
    have e : es.flatten = (es.take n).flatten ++ (es.drop n).flatten := by rw [← List.flatten_append, List.take_append_drop]
    rw [e]
    rw [List.getElem?_append_left (List.getElem?_eq_some_iff.1 hj).1]
    exact hj
section
variable {P : Program} {ro : Option Nat} {n : Nat} {w0 : World} {Q : Exit → Act → World → Prop} {r : Env} {ds : List Dfr} {m : Mem} {H : SHeap}
  {ops : Array Oper} {l : List Oper} {d : Nat} {ty : TypeId} {pos : String} {after : Array Edge} {t tx : TypeId} {x y : Operand}
theorem flat_one : ∀ {es : List (List Value)}, (∀ q ∈ es, q.length = 1) → es.flatten.length = es.length
  | [], _ => rfl
  | q :: es, h => by rw [List.flatten_cons, List.length_append, h q List.mem_cons_self, flat_one (fun x hx => h x (List.mem_cons_of_mem _ hx)), List.length_cons]; omega
/-- what is copied into a row -/
theorem WL.copyR {e : TypeId} {b o k kc len cp2 c cap : Nat} {a2 : Option Addr} {T : TypeId} {es src : List (List Value)} {H' : SHeap} (hx : r.ev x = some (.slice (some ⟨b, o, none⟩) k kc)) (hy : r.ev y = some (.slice a2 len cp2))
    (hu : P.underlying t = some (.slice e)) (hsz : sizeB P e = some 1) (hR : RowR w0 m H 1 a2 src) (hlen : src.length = len) (hc : c = min len k) (hl : o + c ≤ es.length) (hok : ∀ q ∈ src, q.all okCell = true)
    (hr : Repl (.row (some ⟨b, 0, none⟩) cap T 1 es) (.row (some ⟨b, 0, none⟩) cap T 1 (es.take o ++ src.take c ++ es.drop (o + c))) H H') (hd : Nat.blt d n = true) (h : WL P ro n w0 ops Q l ((d, .int .i64 (c : Int)) :: r) ds m H') :
    WL P ro n w0 ops Q (⟨some d, .call ⟨.builtin .copy, #[x, y], #[t, tx]⟩, ty, pos, after, none⟩ :: l) r ds m H := by
  refine .gen (fun v m' H'' => v = .int .i64 (c : Int) ∧ m' = m ∧ H'' = H') hd (fun _ h => by cases h) (fun tmps w ho hs => ?_) (by rintro _ _ _ ⟨rfl, rfl, rfl⟩; exact h)
  obtain ⟨H1, p1, p2⟩ := hr.perm
  obtain ⟨h1, h2⟩ := hR w hs
  have hct : (src.take c).flatten.length = c := by
    rw [flat_one (fun q hq => h1 q (List.mem_of_mem_take hq)), List.length_take]; omega
  have hcells : (Builtin.firstCells 1 c (.slice a2 len cp2)).run P w = .ok (src.take c).flatten.toArray w := by
    cases a2 with
    | none =>
      simp only at h2
      subst h2
      simp [Builtin.firstCells]
    | some b2 =>
      refine run_firstCells_some w 1 c b2 len cp2 _ (by rw [hct, Nat.mul_one]) (fun j u hj => ?_)
      exact ((hR.take c) w hs).2 j u hj
  have hall : (src.take c).flatten.all okCell = true := by
    rw [List.all_flatten]
    exact List.all_eq_true.2 fun q hq => hok q (List.mem_of_mem_take hq)
  have hs1 := hs.perm p1
  obtain ⟨arr, fz, g1, g2, g3, g4, g5, g6, g7, g8⟩ := hs1.own (.row (some ⟨b, 0, none⟩) cap T 1 es) List.mem_cons_self
  have hs2 : Sat w0 m (.blk b (.cells arr.toList.toArray T fz) :: H1) w := hs1.turn rfl rfl rfl (Nat.le_refl _) (fun _ _ _ => rfl) (by show w.heap[b]? = _; rw [g2]) (fun q hq => .inl hq) (by simp [Item.foot])
  have hel : es.flatten.length = es.length := flat_one g6
  have hLl : es.length ≤ arr.toList.length := by
    have h9 : arr.toList.length = cap * 1 := by rw [Array.length_toList]; exact g3
    omega
  obtain ⟨w', h3, h4⟩ := run_laid (P := P) (src.take c).flatten 0 o arr.toList H1 w (by rw [hct]; omega) (by
    rcases g7 with g | g
    · exact .inl g
    · exact .inr (.inr (by rw [Array.length_toList]; exact g))) hall hs2
  rw [Nat.add_zero] at h4
  have hA : (es.take o).flatten.length = o := by rw [flat_one (fun q hq => g6 q (List.mem_of_mem_take hq)), List.length_take]; omega
  have hB : ((es.drop o).take c).flatten.length = c := by rw [flat_one (fun q hq => g6 q (List.mem_of_mem_drop (List.mem_of_mem_take hq))), List.length_take, List.length_drop]; omega
  have hsplit : arr.toList = (es.take o).flatten ++ ((es.drop o).take c).flatten ++ ((es.drop (o + c)).flatten ++ arr.toList.drop es.length) := by
    have e1 : es.flatten = (es.take o).flatten ++ ((es.drop o).take c).flatten ++ (es.drop (o + c)).flatten := by
      rw [← List.flatten_append, ← List.flatten_append]
      congr 1
      rw [List.append_assoc, ← List.drop_drop, List.take_append_drop, List.take_append_drop]
    rw [← List.append_assoc, ← e1]
    conv => lhs; rw [← List.take_append_drop es.length arr.toList]
    rw [← g5, Nat.mul_one]
  have hlaid : laid arr.toList o (src.take c).flatten = (es.take o).flatten ++ (src.take c).flatten ++ ((es.drop (o + c)).flatten ++ arr.toList.drop es.length) := by
    conv => lhs; rw [hsplit]
    have := laid_app (src.take c).flatten (es.take o).flatten ((es.drop o).take c).flatten ((es.drop (o + c)).flatten ++ arr.toList.drop es.length) (by rw [hB, hct])
    rw [hA] at this
    exact this
  have hnl : (es.take o ++ src.take c ++ es.drop (o + c)).length = es.length := by
    rw [List.length_append, List.length_append, List.length_take, List.length_take, List.length_drop]; omega
  have hne : ∀ q ∈ es.take o ++ src.take c ++ es.drop (o + c), q.length = 1 := by
    intro q hq
    rcases List.mem_append.1 hq with hq | hq
    · rcases List.mem_append.1 hq with hq | hq
      · exact g6 q (List.mem_of_mem_take hq)
      · exact h1 q (List.mem_of_mem_take hq)
    · exact g6 q (List.mem_of_mem_drop hq)
  have hs5 : Sat w0 m (.row (some ⟨b, 0, none⟩) cap T 1 (es.take o ++ src.take c ++ es.drop (o + c)) :: H1) w' := by
    refine h4.turn rfl rfl rfl (Nat.le_refl _) (fun _ _ _ => rfl) ?_ (fun q hq => .inl hq) (by simp [Item.foot])
    have hb : w'.heap[b]? = some (.cells (laid arr.toList o (src.take c).flatten).toArray T fz) := h4.own _ List.mem_cons_self
    refine ⟨_, fz, rfl, hb, ?_, by rw [hnl]; exact g4, ?_, hne, ?_, by rw [hnl]; exact g8⟩
    · rw [List.size_toArray, laid_length, Array.length_toList, g3]
    · rw [hnl, Nat.mul_one]
      show (laid arr.toList o (src.take c).flatten).take es.length = _
      rw [hlaid, ← List.append_assoc, ← List.flatten_append, ← List.flatten_append]
      have hfl := flat_one hne
      rw [hnl] at hfl
      rw [List.take_append_of_le_length (Nat.le_of_eq hfl.symm), List.take_of_length_le (Nat.le_of_eq hfl)]
    · rcases g7 with g | g
      · exact .inl g
      · refine .inr ?_
        rw [List.size_toArray, laid_length, Array.length_toList]; exact g
  refine ⟨_, m, H', w', ?_, hs5.perm p2.symm, rfl, rfl, rfl⟩
  have hmin : Nat.min len k = c := hc.symm
  have hrun : (Builtin.copy_ #[t, tx] ty #[.slice (some ⟨b, o, none⟩) k kc, .slice a2 len cp2]).run P w = .ok (.int .i64 (c : Int)) w' := by
    simp [Builtin.copy_, Builtin.lenOf, run_underlying hu, run_size hsz, hmin, hcells, h3, goInt]
  simp only [execOp, resolve, invoke, builtin, Sem.run_bind, Sem.run_pure, Result.andThen_ok, List.map_toArray, List.map_cons, List.map_nil, ho.ev hx, ho.ev hy, hrun]
end
end Go.Eng

/-
  Contracts of the library, laid at this seat by the shelf's own tools. No condition.
-/
namespace Go.Proofs.Ytgckeelnhafgaaa
open Go Go.Shelf Go.Proofs
set_option linter.all false
def sh_lays190_ren : Go.Shelf.Ren := ⟨fun | 190 => 47 | 125 => 64 | 258 => 63 | 128 => 82 | 129 => 83 | 302 => 73 | 303 => 74 | 304 => 75 | 305 => 76 | 306 => 77 | 307 => 78 | 308 => 79 | 309 => 80 | 310 => 81 | 333 => 88 | 329 => 89 | 330 => 90 | 334 => 91 | 335 => 92 | 336 => 93 | 344 => 96 | n => n, fun | 31 => 26 | 9 => 9 | 3 => 3 | 46 => 58 | 0 => 0 | 51 => 153 | 53 => 156 | 4 => 4 | 183 => 164 | 182 => 163 | 131 => 87 | 5 => 5 | 218 => 175 | 222 => 179 | 228 => 181 | 229 => 182 | n => n, fun | n => n⟩
theorem sh_lays190 : Go.Proofs.Lays.n190 Try.prog sh_lays190_ren := {
  mixed := by kernel_rfl
  f125 := Try.func64.trans (congrArg some (by kernel_rfl))
  f128 := Try.func82.trans (congrArg some (by kernel_rfl))
  f129 := Try.func83.trans (congrArg some (by kernel_rfl))
  f190 := Try.func47.trans (congrArg some (by kernel_rfl))
  f258 := Try.func63.trans (congrArg some (by kernel_rfl))
  f302 := Try.func73.trans (congrArg some (by kernel_rfl))
  f303 := Try.func74.trans (congrArg some (by kernel_rfl))
  f304 := Try.func75.trans (congrArg some (by kernel_rfl))
  f305 := Try.func76.trans (congrArg some (by kernel_rfl))
  f306 := Try.func77.trans (congrArg some (by kernel_rfl))
  f307 := Try.func78.trans (congrArg some (by kernel_rfl))
  f308 := Try.func79.trans (congrArg some (by kernel_rfl))
  f309 := Try.func80.trans (congrArg some (by kernel_rfl))
  f310 := Try.func81.trans (congrArg some (by kernel_rfl))
  f329 := Try.func89.trans (congrArg some (by kernel_rfl))
  f330 := Try.func90.trans (congrArg some (by kernel_rfl))
  f333 := Try.func88.trans (congrArg some (by kernel_rfl))
  f334 := Try.func91.trans (congrArg some (by kernel_rfl))
  f335 := Try.func92.trans (congrArg some (by kernel_rfl))
  f336 := Try.func93.trans (congrArg some (by kernel_rfl))
  f344 := Try.func96.trans (congrArg some (by kernel_rfl))
  t0 := Try.underlying0
  a0 := Try.isAgg0
  z0 := Try.sizeOf0
  v0 := Try.zeroValue0
  t3 := Try.underlying3
  a3 := Try.isAgg3
  z3 := Try.sizeOf3
  v3 := Try.zeroValue3
  t4 := Try.underlying4
  a4 := Try.isAgg4
  z4 := Try.sizeOf4
  v4 := Try.zeroValue4
  t5 := Try.underlying5
  a5 := Try.isAgg5
  z5 := Try.sizeOf5
  v5 := Try.zeroValue5
  t9 := Try.underlying9
  a9 := Try.isAgg9
  z9 := Try.sizeOf9
  v9 := Try.zeroValue9
  t31 := Try.underlying26
  a31 := Try.isAgg26
  z31 := Try.sizeOf26
  v31 := Try.zeroValue26
  t46 := Try.underlying58
  a46 := Try.isAgg58
  z46 := Try.sizeOf58
  v46 := Try.zeroValue58
  t51 := Try.underlying153
  a51 := Try.isAgg153
  z51 := Try.sizeOf153
  v51 := Try.zeroValue153
  t53 := Try.underlying156
  a53 := Try.isAgg156
  z53 := Try.sizeOf156
  v53 := Try.zeroValue156
  t131 := Try.underlying87
  a131 := Try.isAgg87
  z131 := Try.sizeOf87
  v131 := Try.zeroValue87
  t182 := Try.underlying163
  a182 := Try.isAgg163
  z182 := Try.sizeOf163
  v182 := Try.zeroValue163
  t183 := Try.underlying164
  a183 := Try.isAgg164
  z183 := Try.sizeOf164
  v183 := Try.zeroValue164
  t218 := Try.underlying175
  a218 := Try.isAgg175
  z218 := Try.sizeOf175
  v218 := Try.zeroValue175
  t222 := Try.underlying179
  a222 := Try.isAgg179
  z222 := Try.sizeOf179
  v222 := Try.zeroValue179
  t228 := Try.underlying181
  a228 := Try.isAgg181
  z228 := Try.sizeOf181
  v228 := Try.zeroValue181
  t229 := Try.underlying182
  a229 := Try.isAgg182
  z229 := Try.sizeOf182
  v229 := Try.zeroValue182 }
open Go.Sort Go.RowKit in
theorem sh_slices_Sort_string (blk off cap : Nat) (ss : List (List UInt8)) (w : World) (hH : Holds encStr w blk off ss.toArray) (hblk : blk < w.heap.size) (hsz : ss.length < 4611686018427387904) :
    Calls Try.prog 47 #[.slice (some ⟨blk, off, none⟩) ss.length cap] w fun e w' =>
      e = .returned (.tuple #[]) ∧ ∃ n os, w' = grow (putRow encStr (Sort.ahead w n) blk off (ss.mergeSort fun x y => decide (x ≤ y)).toArray) os := Any.slices_Sort_string sh_lays190 blk off cap ss w hH hblk hsz
def sh_lays212_ren : Go.Shelf.Ren := ⟨fun | 212 => 54 | 263 => 68 | 264 => 69 | n => n, fun | 46 => 58 | 51 => 153 | 146 => 154 | 53 => 156 | 148 => 157 | n => n, fun | n => n⟩
theorem sh_lays212 : Go.Proofs.Lays.n212 Try.prog sh_lays212_ren := {
  mixed := by kernel_rfl
  f212 := Try.func54.trans (congrArg some (by kernel_rfl))
  f263 := Try.func68.trans (congrArg some (by kernel_rfl))
  f264 := Try.func69.trans (congrArg some (by kernel_rfl))
  t46 := Try.underlying58
  a46 := Try.isAgg58
  z46 := Try.sizeOf58
  v46 := Try.zeroValue58
  t51 := Try.underlying153
  a51 := Try.isAgg153
  z51 := Try.sizeOf153
  v51 := Try.zeroValue153
  t53 := Try.underlying156
  a53 := Try.isAgg156
  z53 := Try.sizeOf156
  v53 := Try.zeroValue156
  t146 := Try.underlying154
  a146 := Try.isAgg154
  z146 := Try.sizeOf154
  v146 := Try.zeroValue154
  t148 := Try.underlying157
  a148 := Try.isAgg157
  z148 := Try.sizeOf157
  v148 := Try.zeroValue157 }
open Go.RowKit Go.Lib in
theorem sh_bits_Mul (x y : Nat) (hx : x < 18446744073709551616) (hy : y < 18446744073709551616) (w : World) :
    Calls Try.prog 54 #[.int .u64 x, .int .u64 y] w fun e w' => e = .returned (.tuple #[.int .u64 ((x * y / 18446744073709551616 : Nat) : Int), .int .u64 ((x * y % 18446744073709551616 : Nat) : Int)]) ∧ w' = w := Any.bits_Mul sh_lays212 x y hx hy w
open Go.RowKit Go.Sort in
theorem sh_slices_Sort_string_none (p : Option Addr) (cap : Nat) (w : World) :
    Calls Try.prog 47 #[.slice p 0 cap] w fun e w' => e = .returned (.tuple #[]) ∧ w' = w := Any.slices_Sort_string_none sh_lays190 p cap w
end Go.Proofs.Ytgckeelnhafgaaa

/-
  The walk of slices.Repeat of one number. No condition.
-/
namespace Go.Proofs.Ytgckeelnhafgaaa
open Go Go.Eng
set_option maxRecDepth 100000
set_option maxHeartbeats 4000000
set_option linter.all false
attribute [local irreducible] WL WC WQ QFun QLoop Does Q1 QRound QAssign Go.Addr.add
def rep (n : Nat) (v : Int) (N : Nat) : List (List Value) := List.replicate n [.int .i64 v] ++ List.replicate (N - n) [.int .i64 0]
theorem rep_length {n N : Nat} (h : n ≤ N) (v : Int) : (rep n v N).length = N := by unfold rep; simp; omega
theorem rep_one (n : Nat) (v : Int) (N : Nat) : ∀ q ∈ rep n v N, q.all okCell = true := by
  intro q hq
  rcases List.mem_append.1 hq with h | h
  · rw [(List.mem_replicate.1 h).2]; rfl
  · rw [(List.mem_replicate.1 h).2]; rfl
theorem rep_more {n c N : Nat} (v : Int) (h : n + c ≤ N) : (rep n v N).take n ++ List.replicate c [.int .i64 v] ++ (rep n v N).drop (n + c) = rep (n + c) v N := by
  unfold rep
  rw [List.take_append_of_le_length (by simp), List.take_of_length_le (by simp), List.drop_append, List.drop_eq_nil_of_le (by simp), List.nil_append, List.drop_replicate, ← List.replicate_append_replicate, List.length_replicate]
  congr 2
  omega
theorem repeat1_any {b0 : Nat} (v : Int) (N : Nat) (hN : N ≤ 1000000) (T : TypeId) (w0 : World) (m : Mem) (H : SHeap) :
    Does Try.prog 39 #[.slice (some ⟨b0, 0, none⟩) 1 1, .int .i64 (N : Int)] w0 m (.blk b0 (.cells [.int .i64 v].toArray T (0, 0)) :: H)
      (fun u m' H' => m' = m ∧ ∃ b, u = .slice (some ⟨b, 0, none⟩) N N ∧ H' = .row (some ⟨b, 0, none⟩) N 3 1 (List.replicate N [.int .i64 v]) :: H) := by
  refine Does.of_body (args := [.slice (some ⟨b0, 0, none⟩) 1 1, .int .i64 (N : Int)]) Try.func39 rfl Try.ntmps39 rfl ?_
  have hmul : ∀ (w0 : World) (m : Mem) (H : SHeap), Does Try.prog 54 #[.int .u64 ((1 : Nat) : Int), .int .u64 (N : Int)] w0 m H (Gives (.tuple #[.int .u64 0, .int .u64 (N : Int)]) m H) := by
    intro w0 m H
    have e1 : (1 * N / 18446744073709551616 : Nat) = 0 := by omega
    have e2 : (1 * N % 18446744073709551616 : Nat) = N := by omega
    refine Does.ofSame fun w _ => ?_
    have := sh_bits_Mul 1 N (by omega) (by omega) w
    rw [e1, e2] at this
    exact this
  (try (refine st ?_; intros))
  refine w_callF Try.func54 ?_ (hs := hmul _ _ _)
  rintro u0 m H1 ⟨rfl, rfl, rfl⟩
  (refine st ?_; intros; rename_i b1)
  have hc1 : ∃ c1, c1 = min 1 N := ⟨_, rfl⟩
  obtain ⟨c1, hc1⟩ := hc1
  refine WL.copyR (b := b1) (o := 0) (k := N) (len := 1) (c := c1) (src := [[.int .i64 v]]) (es := rep 0 v N) rfl rfl rfl rfl (rowR_blk (T := T) (fz := (0, 0)) (L := [.int .i64 v]) zhs rfl (by simp)) rfl hc1 (by rw [rep_length (Nat.zero_le _)]; omega) (by simp [okCell, Value.oneCell'])
    (H' := .row (some ⟨b1, 0, none⟩) N 3 1 (rep c1 v N) :: .blk b0 (.cells [.int .i64 v].toArray T (0, 0)) :: H) (by
      have h9 := rep_more (n := 0) (c := c1) (N := N) v (by omega)
      have h8 : ([[Value.int .i64 v]] : List (List Value)).take c1 = List.replicate c1 [.int .i64 v] := by
        obtain h | h : c1 = 0 ∨ c1 = 1 := by omega
        · rw [h]; rfl
        · rw [h]; rfl
      rw [h8, h9, Nat.zero_add]
      exact Repl.here) rfl ?_
  (try (refine st ?_; intros))
  refine WC.loopH [(8, .int .i64 ((c1) : Int)), (7, .slice (some ⟨b1, 0, none⟩) N N)] ?_ ?_ (fun j r ds m' H' => ∃ u, j = N - u ∧ r = [(8, .int .i64 (u : Int)), (7, .slice (some ⟨b1, 0, none⟩) N N)] ∧ ds = [] ∧ m = m' ∧ H' = .row (some ⟨b1, 0, none⟩) N 3 1 (rep u v N) :: .blk b0 (.cells [.int .i64 v].toArray T (0, 0)) :: H ∧ (u ≤ N) ∧ (0 < u ∨ N = 0)) (N - (c1)) ⟨c1, rfl, rfl, rfl, rfl, rfl, by omega, by omega⟩ ?_
  · (repeat (first | exact Env.Sub.nil | refine Env.Sub.cons rfl ?_))
  · exact zpk
  rintro j r ds m' H' ⟨u, rfl, rfl, rfl, rfl, rfl, hu, hpos⟩
  by_cases hlt : u < N
  · (try (refine st ?_; intros))
    refine WC.drawE 10 ([.blk b0 (.cells [.int .i64 v].toArray T (0, 0))]) (.row (some ⟨b1, 0, none⟩) N 3 1 (rep u v N) :: H) rfl (by decide +kernel) zpk ?_
    (refine cm0 ?_)
    have hs1 : subSl (some ⟨b1, 0, none⟩) N u N 1 = .slice (some ⟨b1, u, none⟩) (N - u) (N - u) := by
      unfold subSl
      rw [if_neg (by omega)]
      simp [Addr.add]
      omega
    have hs2 : subSl (some ⟨b1, 0, none⟩) N 0 u 1 = .slice (some ⟨b1, 0, none⟩) u N := by
      unfold subSl
      rw [if_neg (by omega)]
      simp [Addr.add]
    obtain ⟨c2, hc2⟩ : ∃ c2, c2 = min u (N - u) := ⟨_, rfl⟩
    have hru : (rep u v N).take u = List.replicate u [.int .i64 v] := by
      unfold rep
      rw [List.take_append_of_le_length (by simp), List.take_of_length_le (by simp)]
    have h9 := rep_more (n := u) (c := c2) (N := N) v (by omega)
    rw [hru] at h9
    refine WE.act1 7 (by decide +kernel) rfl rfl (fun c h => by cases h) ?_
    refine WL.copyR (b := b1) (o := u) (k := N - u) (kc := N - u) (len := u) (cp2 := N) (a2 := some ⟨b1, 0, none⟩) (c := c2) (src := (rep u v N).take u) (es := rep u v N) (by rw [← hs1]; rfl) (by rw [← hs2]; rfl) rfl rfl ((RowR.row zhs).take u) (by rw [hru]; simp) hc2 (by rw [rep_length hu]; omega) (fun q hq => rep_one _ _ _ q (List.mem_of_mem_take hq))
      (H' := [.blk b0 (.cells [.int .i64 v].toArray T (0, 0))] ++ .row (some ⟨b1, 0, none⟩) N 3 1 (rep (u + c2) v N) :: H) (by
        rw [hru, show (List.replicate u [Value.int .i64 v]).take c2 = List.replicate c2 [.int .i64 v] by rw [List.take_replicate]; congr 1; omega, h9]
        exact Repl.there Repl.here) rfl ?_
    (try (refine st ?_; intros))
    refine WQ.acted (B := []) (U := .row (some ⟨b1, 0, none⟩) N 3 1 (rep (u + c2) v N) :: H) rfl (Mem.le.refl _) zpk ?_
    (refine cm0 ?_)
    refine WE.done (by decide +kernel) ?_
    (try (refine st ?_; intros))
    refine WQ.next (N - (u + c2)) ⟨u + c2, rfl, rfl, rfl, rfl, rfl, ?_, ?_⟩ (by omega) zsb zpk
    · omega
    · omega
  · obtain rfl : u = N := by omega
    have hfin : rep u v u = List.replicate u [.int .i64 v] := by unfold rep; simp
    rw [hfin]
    (try (refine st ?_; intros))
    exact q_fin0 (H0 := .row (some ⟨b1, 0, none⟩) u 3 1 (List.replicate u [.int .i64 v]) :: H) ⟨rfl, b1, rfl, rfl⟩ (hd := zpk)
end Go.Proofs.Ytgckeelnhafgaaa

/-
  The walk of slices.Backward of numbers. No condition.
-/
namespace Go.Eng
open Go Go.RowKit
/-- the numbers of a list with their places, from the end -/
def backs (ps : List Nat) : List (Nat × Nat) := ps.zipIdx.reverse
/-- a boxed slice of numbers that stays -/
def NumsAt (b : Nat) (a : Option Addr) (cap : Nat) (T : TypeId) (ps : List Nat) (m : Mem) : Prop := m b = some (.cells [.slice a ps.length cap].toArray T (0, 0)) ∧ ∀ w0 H, RowR w0 m H 1 a (nums ps)
end Go.Eng
namespace Go.Proofs.Ytgckeelnhafgaaa
open Go Go.Eng
set_option maxRecDepth 100000
set_option maxHeartbeats 4000000
set_option linter.all false
attribute [local irreducible] WL WC WQ QFun QLoop Does Q1 QRound QAssign Go.Addr.add
theorem backward_any {a : Option Addr} {k c : Nat} (w0 : World) (m : Mem) (H : SHeap) : Does Try.prog 40 #[.slice a k c] w0 m H (fun v m' H' => m' = m ∧ ∃ b, v = .func (.func 55) #[] #[.pointer (some ⟨b, 0, none⟩)] ∧ H' = .blk b (.cells [.slice a k c].toArray 67 (0, 0)) :: H) := by
  refine Does.of_body (args := [.slice a k c]) Try.func40 rfl Try.ntmps40 rfl ?_
  (refine st ?_; intros; rename_i b)
  exact q_fin0 (H0 := .blk b (.cells [.slice a k c].toArray 67 (0, 0)) :: H) ⟨rfl, b, rfl, rfl⟩ (hd := zpk)
theorem backward_seq {ps : List Nat} {a : Option Addr} {cap : Nat} (hl : ps.length ≤ 1000000) (b : Nat) : SeqM Try.prog 55 [.pointer (some ⟨b, 0, none⟩)] (fun x : Nat × Nat => [.int .i64 (x.2 : Int), .int .i64 (x.1 : Int)]) (backs ps) (NumsAt b a cap 67 ps) := by
  intro w0 lp J Jx m H mJ mX hcap h0 hY
  obtain ⟨hcap', hr⟩ := hcap
  refine Does.of_body Try.func55 rfl Try.ntmps55 rfl ?_
  have hpl := nums_length ps
  (try (refine st ?_; intros))
  refine WC.rename 3 (u := .int .i64 ((ps.length : Int) - 1)) rfl rfl ?_
  refine WC.loopH [(3, .int .i64 (((ps.length) : Int) - 1)), (0, .func (.yield lp) #[] #[]), (1, .pointer (some ⟨b, 0, none⟩))] ?_ ?_ (fun j r ds m' H' => ∃ (n : Nat) (mm : Mem) (H2 : SHeap), j = 2 * n ∧ r = [(3, .int .i64 ((n : Int) - 1)), (0, .func (.yield lp) #[] #[]), (1, .pointer (some ⟨b, 0, none⟩))] ∧ ds = [] ∧ mm = m' ∧ H' = H2 ∧ (n ≤ ps.length) ∧ (m.le mm) ∧ (J (ps.zipIdx.drop n).reverse mm H2)) (2 * (ps.length)) ⟨ps.length, m, H, rfl, rfl, rfl, rfl, rfl, Nat.le_refl _, Mem.le.refl _, by rw [List.drop_eq_nil_of_le (by simp)]; exact h0⟩ ?_
  · (repeat (first | exact Env.Sub.nil | refine Env.Sub.cons rfl ?_))
  · exact zpk
  rintro j r ds m' H' ⟨n, mm, H2, rfl, rfl, rfl, rfl, rfl, hn, hle, hJ⟩
  generalize H' = H2 at *
  have hcap1 := hle _ _ hcap'
  rcases Nat.eq_zero_or_pos n with rfl | hn0
  · (try (refine st ?_; intros))
    exact q_finNorm0 (H0 := H2) ⟨hle, .inl hJ⟩ (hd := zpk)
  · have hlt : n - 1 < ps.length := by omega
    obtain ⟨p, hp⟩ : ∃ p, ps[n - 1]? = some p := ⟨_, List.getElem?_eq_getElem hlt⟩
    have hgp := nums_get hp
    have hzl : n - 1 < ps.zipIdx.length := by simpa using hlt
    have hzg : ps.zipIdx[n - 1]'hzl = (p, n - 1) := by
      have := (List.getElem?_eq_some_iff.1 hp).2
      simp [this]
    have hdr : ps.zipIdx.drop (n - 1) = (p, n - 1) :: ps.zipIdx.drop n := by
      rw [List.drop_eq_getElem_cons hzl, hzg, show n - 1 + 1 = n by omega]
    have htk : backs ps = (ps.zipIdx.drop n).reverse ++ (p, n - 1) :: (ps.zipIdx.take (n - 1)).reverse := by
      have e : ps.zipIdx = ps.zipIdx.take (n - 1) ++ (p, n - 1) :: ps.zipIdx.drop n := by rw [← hdr, List.take_append_drop]
      exact (congrArg List.reverse e).trans (by simp)
    have hz : (n : Int) - 1 = ((n - 1 : Nat) : Int) := by omega
    have hr' := (hr w0 H2).le hle
    generalize nums ps = E at *
    refine WC.rSome hr' (by omega) ?_
    rintro a0 rfl
    rw [hz]
    (try (refine st ?_; intros))
    refine WL.yield (vs := [.int .i64 ((n - 1 : Nat) : Int), .int .i64 (p : Int)]) rfl rfl rfl (hY _ (p, n - 1) _ htk mm H2 [] hJ hle) ?_ ?_
    · rintro m2 H9 ⟨H3, rfl, hJ2, hle2⟩
      (try (refine st ?_; intros))
      refine WQ.next (2 * (n - 1)) ⟨n - 1, m2, H9, rfl, rfl, rfl, rfl, rfl, ?_, ?_, ?_⟩ (by omega) zsb zpk
      · omega
      · exact hle.trans hle2
      · rw [hdr]; simpa using hJ2
    · rintro m2 H9 ⟨H3, rfl, hJ2, hle2⟩
      (try (refine st ?_; intros))
      exact q_fin0 (H0 := H9) ⟨hle.trans hle2, .inr ⟨(ps.zipIdx.drop n).reverse ++ [(p, n - 1)], ⟨(ps.zipIdx.take (n - 1)).reverse, by rw [htk, List.append_assoc]; rfl⟩, hJ2⟩⟩ (hd := zpk)
end Go.Proofs.Ytgckeelnhafgaaa

/-
  Plain facts on changes of texts: steps, and what stands between the bytes that are kept. No condition.
-/
namespace Go.Eng
open Go
/-- a step as it came in -/
structure Stp where
  k : Int
  d : List UInt8
  p : List UInt8
  deriving DecidableEq
/-- what is put and what is dropped ahead of a byte that is kept, or at the end -/
structure Gap where
  p : List UInt8
  d : List UInt8
  deriving DecidableEq
/-- may it be: just one of the three -/
def stpOk (s : Stp) : Prop := (0 < s.k ∧ s.d = [] ∧ s.p = []) ∨ (s.k = 0 ∧ s.d ≠ [] ∧ s.p = []) ∨ (s.k = 0 ∧ s.d = [] ∧ s.p ≠ [])
instance (s : Stp) : Decidable (stpOk s) := by unfold stpOk; infer_instance
def maxT : Nat := 65536
/-- how many bytes a change is of, and makes, if it may be -/
def sizesF : List Stp → Int → Int → Option (Int × Int)
  | [], f, t => some (f, t)
  | s :: l, f, t => if stpOk s ∧ s.k ≤ maxT ∧ f + s.k + s.d.length ≤ maxT ∧ t + s.k + s.p.length ≤ maxT then sizesF l (f + s.k + s.d.length) (t + s.k + s.p.length) else none
def sizesOf (l : List Stp) : Option (Int × Int) := sizesF l 0 0
/-- the builder: what is done, and what is put and dropped since -/
structure Bld where
  l : List Stp
  p : List UInt8
  d : List UInt8
def Bld.close (b : Bld) : Bld := ⟨b.l ++ (if b.p = [] then [] else [⟨0, [], b.p⟩]) ++ (if b.d = [] then [] else [⟨0, b.d, []⟩]), [], []⟩
/-- a row is kept behind what is done -/
def addKeep (l : List Stp) (n : Int) : List Stp := match l.getLast? with
  | some s => if 0 < s.k then l.dropLast ++ [⟨s.k + n, s.d, s.p⟩] else l ++ [⟨n, [], []⟩]
  | none => [⟨n, [], []⟩]
def Bld.keep (b : Bld) (n : Int) : Bld := if n = 0 then b else ⟨addKeep b.close.l n, [], []⟩
def Bld.step (b : Bld) (s : Stp) : Bld := if 0 < s.k then b.keep s.k else if s.d ≠ [] then ⟨b.l, b.p, b.d ++ s.d⟩ else ⟨b.l, b.p ++ s.p, b.d⟩
def Bld.start : Bld := ⟨[], [], []⟩
def plainOf (l : List Stp) : List Stp := (l.foldl Bld.step Bld.start).close.l
/-- the gaps of a change -/
structure Gs where
  done : List Gap
  cur : Gap
def Gs.step (g : Gs) (s : Stp) : Gs := if 0 < s.k then ⟨g.done ++ g.cur :: List.replicate (s.k.toNat - 1) ⟨[], []⟩, ⟨[], []⟩⟩ else if s.d ≠ [] then ⟨g.done, ⟨g.cur.p, g.cur.d ++ s.d⟩⟩ else ⟨g.done, ⟨g.cur.p ++ s.p, g.cur.d⟩⟩
def Gs.start : Gs := ⟨[], ⟨[], []⟩⟩
def gapsOf (l : List Stp) : Gs := l.foldl Gs.step Gs.start
/-- the builder over gaps: each is laid, and a byte kept behind it -/
def bldGap (b : Bld) (g : Gap) : Bld := (⟨b.l, b.p ++ g.p, b.d ++ g.d⟩ : Bld).keep 1
def bldGs (g : Gs) : Bld := let b := g.done.foldl bldGap Bld.start; ⟨b.l, b.p ++ g.cur.p, b.d ++ g.cur.d⟩
end Go.Eng

/-
  Plain facts on changes, said place by place. No condition.
-/
namespace Go.Eng
open Go
/-- a change said place by place: what it puts at each place; of each byte, whether it drops it, and which it is -/
def putsG (g : Gap) : List (List UInt8) := g.p :: List.replicate g.d.length []
def dropsG (g : Gap) : List Bool := List.replicate g.d.length true ++ [false]
def bytesG (g : Gap) : List UInt8 := g.d ++ [0]
def putsOf (g : Gs) : List (List UInt8) := g.done.flatMap putsG ++ putsG g.cur
def dropsOf (g : Gs) : List Bool := g.done.flatMap dropsG ++ List.replicate g.cur.d.length true
def bytesOf (g : Gs) : List UInt8 := g.done.flatMap bytesG ++ g.cur.d
/-- one place of it -/
def posStep (b : Bld) (x : List UInt8 × Bool × UInt8) : Bld := if x.2.1 then ⟨b.l, b.p ++ x.1, b.d ++ [x.2.2]⟩ else (⟨b.l, b.p ++ x.1, b.d⟩ : Bld).keep 1
def posOf (g : Gs) : List (List UInt8 × Bool × UInt8) := (putsOf g).zip ((dropsOf g).zip (bytesOf g))
end Go.Eng

/-
  Plain facts on changes: the lists that say a change place by place, while they are filled. No condition.
-/
namespace Go.Eng
open Go
def pad {α : Type} (l : List α) (n : Nat) (x : α) : List α := l ++ List.replicate (n - l.length) x
def gapAt (g : Gs) : Nat := (g.done.flatMap dropsG).length
def atOf (g : Gs) : Nat := gapAt g + g.cur.d.length
def putsPad (N : Nat) (g : Gs) : List (List UInt8) := pad (g.done.flatMap putsG ++ [g.cur.p]) (N + 1) []
def dropsPad (N : Nat) (g : Gs) : List Bool := pad (dropsOf g) N false
def bytesPad (N : Nat) (g : Gs) : List UInt8 := pad (bytesOf g) N 0
/-- one more byte is dropped -/
def Gs.byte (g : Gs) (b : UInt8) : Gs := ⟨g.done, ⟨g.cur.p, g.cur.d ++ [b]⟩⟩
/-- something more is put -/
def Gs.put (g : Gs) (s : List UInt8) : Gs := ⟨g.done, ⟨g.cur.p ++ s, g.cur.d⟩⟩
/-- a row is kept -/
def Gs.keeps (g : Gs) (n : Nat) : Gs := ⟨g.done ++ g.cur :: List.replicate (n - 1) ⟨[], []⟩, ⟨[], []⟩⟩
end Go.Eng

/-
  Plain facts on changes: byte by byte. No condition.
-/
namespace Go.Eng
open Go
/-- one byte of a change -/
inductive Atm where
  | k
  | d (b : UInt8)
  | p (b : UInt8)
  deriving DecidableEq
def Stp.atoms (s : Stp) : List Atm := List.replicate s.k.toNat .k ++ s.d.map .d ++ s.p.map .p
def atomsOf (l : List Stp) : List Atm := l.flatMap Stp.atoms
def Bld.atom (b : Bld) : Atm → Bld
  | .k => b.keep 1
  | .d c => ⟨b.l, b.p, b.d ++ [c]⟩
  | .p c => ⟨b.l, b.p ++ [c], b.d⟩
def Bld.run (b : Bld) (l : List Atm) : Bld := l.foldl Bld.atom b
/-- what a builder has laid, byte by byte -/
def gapA (g : Gap) : List Atm := g.p.map .p ++ g.d.map .d
def Bld.atoms (b : Bld) : List Atm := atomsOf b.l ++ gapA ⟨b.p, b.d⟩
def nfOf (g : Gs) : List Atm := g.done.flatMap (fun x => gapA x ++ [.k]) ++ gapA g.cur
/-- the said change, as a list of places -/
abbrev Pos := List UInt8 × Bool × UInt8
def Pos.atoms (x : Pos) : List Atm := x.1.map .p ++ [if x.2.1 then .d x.2.2 else .k]
def lastOf (g : Gs) : List UInt8 := (putsOf g).getD (dropsOf g).length []
def sdA (ps : List Pos) (last : List UInt8) : List Atm := ps.flatMap Pos.atoms ++ last.map .p
end Go.Eng

/-
  Plain facts on changes: where a place goes. No condition.
-/
namespace Go.Eng
open Go
/-- one step of the program's way -/
def moveStep (at_ : Int) (b : Bool) (st : Int × Int) (s : Stp) : Int × Int :=
  if s.p ≠ [] then (if st.2 < at_ ∨ (st.2 = at_ ∧ b = true) then st.1 + s.p.length else st.1, st.2)
  else if s.d ≠ [] then (st.1, st.2 + s.d.length)
  else (st.1 + max 0 (min s.k (at_ - st.2)), st.2 + s.k)
def moveAtm (at_ : Int) (b : Bool) (st : Int × Int) : Atm → Int × Int
  | .p _ => (if st.2 < at_ ∨ (st.2 = at_ ∧ b = true) then st.1 + 1 else st.1, st.2)
  | .d _ => (st.1, st.2 + 1)
  | .k => (if st.2 < at_ then st.1 + 1 else st.1, st.2 + 1)
/-- the reference's way -/
def mvF : List Pos → List UInt8 → Nat → Bool → Nat
  | [], last, _, b => if b then last.length else 0
  | x :: _, _, 0, b => if b then x.1.length else 0
  | x :: ps, last, at_ + 1, b => x.1.length + (if x.2.1 then 0 else 1) + mvF ps last at_ b
/-- the program's answer is the reference's -/
def moveOf (l : List Stp) (at_ : Int) (b : Bool) : Int := (l.foldl (moveStep at_ b) (0, 0)).1
def movedF (l : List Stp) (at_ : Nat) (b : Bool) : Nat := mvF (posOf (gapsOf l)) (lastOf (gapsOf l)) at_ b
end Go.Eng

/-
  Plain facts on changes: one behind the other. No condition.
-/
namespace Go.Eng
open Go
/-- two changes byte by byte, one behind the other; none: they are apart -/
def compA : List Atm → List Atm → Option (List Atm)
  | xs, .p b :: ys => (compA xs ys).map (.p b :: ·)
  | .d b :: xs, [] => (compA xs []).map (.d b :: ·)
  | .d b :: xs, .k :: ys => (compA xs (.k :: ys)).map (.d b :: ·)
  | .d b :: xs, .d c :: ys => (compA xs (.d c :: ys)).map (.d b :: ·)
  | [], [] => some []
  | [], .k :: _ => some []
  | [], .d _ :: _ => some []
  | .k :: _, [] => some []
  | .p _ :: _, [] => some []
  | .k :: xs, .k :: ys => (compA xs ys).map (.k :: ·)
  | .k :: xs, .d c :: ys => (compA xs ys).map (.d c :: ·)
  | .p b :: xs, .k :: ys => (compA xs ys).map (.p b :: ·)
  | .p b :: xs, .d c :: ys => if b = c then compA xs ys else none
termination_by xs ys => xs.length + ys.length
def notPut : List Atm → Bool
  | .p _ :: _ => false
  | _ => true
/-- how many bytes a change is of, and makes -/
def fromA : List Atm → Nat
  | [] => 0
  | .k :: l => fromA l + 1
  | .d _ :: l => fromA l + 1
  | .p _ :: l => fromA l
def toA : List Atm → Nat
  | [] => 0
  | .k :: l => toA l + 1
  | .d _ :: l => toA l
  | .p _ :: l => toA l + 1
/-- the gaps of a change, byte by byte -/
def Gs.atom (g : Gs) : Atm → Gs
  | .k => ⟨g.done ++ [g.cur], ⟨[], []⟩⟩
  | .d c => ⟨g.done, ⟨g.cur.p, g.cur.d ++ [c]⟩⟩
  | .p c => ⟨g.done, ⟨g.cur.p ++ [c], g.cur.d⟩⟩
def Gs.run (g : Gs) (l : List Atm) : Gs := l.foldl Gs.atom g
end Go.Eng

/-
  Plain facts on changes: how large a builder grows. No condition.
-/
namespace Go.Eng
open Go
/-- no number of it is above N -/
structure BFit (N : Nat) (B : Bld) : Prop where
  len : B.l.length ≤ N
  k : ∀ s ∈ B.l, 0 ≤ s.k ∧ s.k ≤ N
  p : B.p.length ≤ N
  d : B.d.length ≤ N
theorem BFit.mono {N M : Nat} {B : Bld} (h : BFit N B) (hm : N ≤ M) : BFit M B :=
  ⟨by have := h.len; omega, fun s hs => by have := h.k s hs; omega, by have := h.p; omega, by have := h.d; omega⟩
theorem BFit.start : BFit 0 Bld.start := ⟨Nat.le_refl _, fun s hs => by simp [Bld.start] at hs, Nat.le_refl _, Nat.le_refl _⟩
theorem BFit.close {N : Nat} {B : Bld} (h : BFit N B) : BFit (N + 2) B.close := by
  refine ⟨?_, fun s hs => ?_, by simp [Bld.close], by simp [Bld.close]⟩
  · have := h.len
    unfold Bld.close
    split <;> split <;> simp <;> omega
  · unfold Bld.close at hs
    simp only [List.mem_append] at hs
    rcases hs with (hs | hs) | hs
    · have := h.k s hs; omega
    · split at hs <;> simp at hs; subst hs; simp; omega
    · split at hs <;> simp at hs; subst hs; simp; omega
theorem addKeep_k {N : Nat} {l : List Stp} {n : Nat} (h : ∀ s ∈ l, 0 ≤ s.k ∧ s.k ≤ N) : (∀ s ∈ addKeep l n, 0 ≤ s.k ∧ s.k ≤ ((N + n : Nat) : Int)) ∧ (addKeep l n).length ≤ l.length + 1 := by
  unfold addKeep
  cases hl : l.getLast? with
  | none => simp; omega
  | some s =>
    obtain ⟨ys, e⟩ := List.getLast?_eq_some_iff.1 hl
    have hs := h s (by rw [e]; simp)
    have e2 : l.dropLast = ys := by rw [e]; simp
    simp only [e2]
    split
    · refine ⟨fun x hx => ?_, by rw [e]; simp⟩
      simp only [List.mem_append, List.mem_singleton] at hx
      rcases hx with hx | rfl
      · have := h x (by rw [e]; simp [hx]); omega
      · simp; omega
    · refine ⟨fun x hx => ?_, by simp⟩
      simp only [List.mem_append, List.mem_singleton] at hx
      rcases hx with hx | rfl
      · have := h x hx; omega
      · simp; omega
theorem BFit.keep {N n : Nat} {B : Bld} (h : BFit N B) : BFit (N + n + 3) (B.keep n) := by
  unfold Bld.keep
  split
  · exact h.mono (by omega)
  · have hc := h.close
    obtain ⟨h1, h2⟩ := addKeep_k (n := n) hc.k
    exact ⟨by have := hc.len; simp only; omega, fun s hs => by have := h1 s hs; omega, by simp, by simp⟩
theorem BFit.atom {N : Nat} {B : Bld} (h : BFit N B) (a : Atm) : BFit (N + 4) (B.atom a) := by
  cases a with
  | k => exact h.keep (n := 1)
  | d c => exact ⟨by have := h.len; simp only [Bld.atom]; omega, fun s hs => by have := h.k s hs; omega, by have := h.p; simp only [Bld.atom]; omega, by have := h.d; simp [Bld.atom]; omega⟩
  | p c => exact ⟨by have := h.len; simp only [Bld.atom]; omega, fun s hs => by have := h.k s hs; omega, by have := h.p; simp [Bld.atom]; omega, by have := h.d; simp only [Bld.atom]; omega⟩
theorem BFit.run : ∀ (l : List Atm) {N : Nat} {B : Bld}, BFit N B → BFit (N + 4 * l.length) (B.run l)
  | [], _, _, h => h
  | a :: l, N, B, h => by
    have := BFit.run l (h.atom a)
    exact this.mono (by simp; omega)
end Go.Eng

/-
  Plain facts on changes: what a change makes of a text. No condition.
-/
namespace Go.Eng
open Go
/-- what a change makes of a text; none: they are apart -/
def applyA : List UInt8 → List Atm → Option (List UInt8)
  | _, [] => some []
  | s, .p b :: l => (applyA s l).map (b :: ·)
  | c :: s, .k :: l => (applyA s l).map (c :: ·)
  | c :: s, .d b :: l => if c = b then applyA s l else none
  | [], .k :: _ => none
  | [], .d _ :: _ => none
end Go.Eng

/-
  Plain facts on changes: parts of a step. No condition.
-/
namespace Go.Eng
open Go
def takeS (s : Stp) (n : Nat) : Stp := if 0 < s.k then ⟨n, [], []⟩ else if s.d ≠ [] then ⟨0, s.d.take n, []⟩ else ⟨0, [], s.p.take n⟩
def dropS (s : Stp) (n : Nat) : Stp := if 0 < s.k then ⟨s.k - n, [], []⟩ else if s.d ≠ [] then ⟨0, s.d.drop n, []⟩ else ⟨0, [], s.p.drop n⟩
def restS (s : Stp) (n : Nat) (X : List Stp) : List Stp := if n = s.atoms.length then X else dropS s n :: X
end Go.Eng

/-
  Plain facts on changes: composing them by parts of steps. No condition.
-/
namespace Go.Eng
open Go
/-- what two changes come to, one behind the other -/
def compP (a b : List Stp) : Int ⊕ List Stp := match sizesOf a, sizesOf b with
  | some (_, mid), some (from_, _) => if mid ≠ from_ then .inl 5 else match compA (nfOf (gapsOf a)) (nfOf (gapsOf b)) with
    | none => .inl 270
    | some o => .inr (Bld.start.run o).close.l
  | _, _ => .inl 2
end Go.Eng

/-
  Plain facts on changes: composing, with the builder at hand. No condition.
-/
namespace Go.Eng
open Go
/-- the answer, from here on -/
def cmpT (B : Bld) (xs ys : List Atm) : Option (List Stp) := (compA xs ys).map fun o => (B.run o).close.l
/-- the bytes of what a change makes: where each was, or what was put -/
def midsA : Nat → List Atm → List (Int × UInt8)
  | _, [] => []
  | i, .k :: l => ((i : Int), 0) :: midsA (i + 1) l
  | i, .d _ :: l => midsA (i + 1) l
  | i, .p c :: l => (-1, c) :: midsA i l
def bytesA : List Atm → List UInt8
  | [] => []
  | .k :: l => 0 :: bytesA l
  | .d c :: l => c :: bytesA l
  | .p _ :: l => bytesA l
/-- the bytes that are made, up to a place -/
def midsTo (P : List (List UInt8)) (D : List Bool) : Nat → List (Int × UInt8)
  | 0 => []
  | p + 1 => midsTo P D p ++ (P.getD p []).map (fun c => (-1, c)) ++ (if D.getD p true = false then [((p : Int), 0)] else [])
end Go.Eng

/-
  Plain facts on changes: two changes carried over each other. No condition.
-/
namespace Go.Eng
open Go
/-- two changes byte by byte, carried over each other; none: they are apart -/
def carA : List Atm → List Atm → Option (List Atm × List Atm)
  | .p b :: xs, ys => (carA xs ys).map fun o => (.p b :: o.1, .k :: o.2)
  | [], .p b :: ys => (carA [] ys).map fun o => (.k :: o.1, .p b :: o.2)
  | .k :: xs, .p b :: ys => (carA (.k :: xs) ys).map fun o => (.k :: o.1, .p b :: o.2)
  | .d c :: xs, .p b :: ys => (carA (.d c :: xs) ys).map fun o => (.k :: o.1, .p b :: o.2)
  | .k :: xs, .k :: ys => (carA xs ys).map fun o => (.k :: o.1, .k :: o.2)
  | .d b :: xs, .k :: ys => (carA xs ys).map fun o => (.d b :: o.1, o.2)
  | .k :: xs, .d b :: ys => (carA xs ys).map fun o => (o.1, .d b :: o.2)
  | .d b :: xs, .d c :: ys => if b = c then carA xs ys else none
  | [], [] => some ([], [])
  | [], .k :: _ => some ([], [])
  | [], .d _ :: _ => some ([], [])
  | .k :: _, [] => some ([], [])
  | .d _ :: _, [] => some ([], [])
termination_by xs ys => xs.length + ys.length
/-- the answer, from here on, with both builders at hand -/
def carT (U V : Bld) (n : Nat) (xs ys : List Atm) : Option (List Stp × List Stp × Nat) := (carA xs ys).map fun o => ((U.run o.1).close.l, (V.run o.2).close.l, n + toA o.1)
/-- what two changes carried over each other come to -/
def carP (a b : List Stp) : Int ⊕ (List Stp × List Stp) := match sizesOf a, sizesOf b with
  | some (from_, _), some (same, _) => if from_ ≠ same then .inl 5 else match carT Bld.start Bld.start 0 (nfOf (gapsOf a)) (nfOf (gapsOf b)) with
    | none => .inl 270
    | some (u, v, n) => if 65536 < n then .inl 3 else .inr (u, v)
  | _, _ => .inl 2
end Go.Eng

/-
  Plain facts on changes: carried over each other they come to one text; one behind the other the same. No condition.
-/
namespace Go.Eng
open Go
/-- the list that a builder makes of bytes -/
def listOf (L : List Atm) : List Stp := (Bld.start.run L).close.l
end Go.Eng

/-
  Plain facts on changes: how much composing and carrying make. No condition.
-/
namespace Go.Eng
open Go
end Go.Eng

/-
  Plain facts on changes that are said and made plain. No condition.
-/
namespace Go.Eng
open Go
end Go.Eng

/-
  Plain facts on changes: turned about; their one form. No condition.
-/
namespace Go.Eng
open Go
def Atm.inv : Atm → Atm
  | .k => .k
  | .d b => .p b
  | .p b => .d b
def Stp.inv (s : Stp) : Stp := ⟨s.k, s.p, s.d⟩
def Gap.inv (g : Gap) : Gap := ⟨g.d, g.p⟩
def Gs.inv (g : Gs) : Gs := ⟨g.done.map Gap.inv, g.cur.inv⟩
end Go.Eng

/-
  What a change between two lists of tokens does. No condition.
-/
namespace Go.Eng
open Go
/-- a text that is put, if there is one -/
def putT (t : List UInt8) : List Stp := if t = [] then [] else [⟨0, [], t⟩]
def dropT (t : List UInt8) : List Stp := if t = [] then [] else [⟨0, t, []⟩]
def keepT (t : List UInt8) : List Stp := [⟨(t.length : Int), [], []⟩]
/-- the steps of a change between two lists -/
def chGo (x y : List Tx) : List (Nat × Nat) → Nat → Nat → List Stp
  | [], i, k => putT (jn y k y.length) ++ dropT (jn x i x.length)
  | p :: l, i, k => putT (jn y k p.2) ++ (dropT (jn x i p.1) ++ (keepT (x.getD p.1 []) ++ chGo x y l (p.1 + 1) (p.2 + 1)))
def chL (s t : List UInt8) : List Stp := chGo (toks s) (toks t) (matchL (toks s) (toks t)) 0 0
end Go.Eng

/-
  A match has as many pairs as can be; what a change keeps. No condition.
-/
namespace Go.Eng
open Go
/-- how many bytes are kept -/
def keepA : List Atm → Nat
  | [] => 0
  | .k :: l => keepA l + 1
  | .d _ :: l => keepA l
  | .p _ :: l => keepA l
/-- the sum of what is kept, step by step -/
def keepN (l : List Stp) : Int := (l.map Stp.k).sum
/-- how long the tokens of pairs are -/
def pairN (x : List Tx) (l : List (Nat × Nat)) : Nat := (l.map fun p => (x.getD p.1 []).length).sum
end Go.Eng

/-
  Origins in plain: in which draft each token came. No condition.
-/
namespace Go.Eng
open Go
def txOf (L : List Dr) (k : Nat) : List UInt8 := (L[k]?).elim [] (·.t)
theorem txOf_at {L : List Dr} {k : Nat} {d : Dr} (h : L[k]? = some d) : txOf L k = d.t := by unfold txOf; rw [h]; rfl
def setAll (src : List Nat) (M : List (Nat × Nat)) (row : List Nat) : List Nat := M.foldl (fun r x => r.set x.2 (src.getD x.1 0)) row
theorem setAll_length (src : List Nat) : ∀ (M : List (Nat × Nat)) (row : List Nat), (setAll src M row).length = row.length
  | [], _ => rfl
  | x :: M, row => by
    show (setAll src M (row.set x.2 (src.getD x.1 0))).length = _
    rw [setAll_length src M, List.length_set]
theorem setAll_snoc (src : List Nat) (M : List (Nat × Nat)) (x : Nat × Nat) (row : List Nat) : setAll src (M ++ [x]) row = (setAll src M row).set x.2 (src.getD x.1 0) := by unfold setAll; simp
def orgStep (L : List Dr) (A : Nat → List Nat) (n : Nat) (row : List Nat) (p : Nat) : List Nat := setAll (A p) (matchL (toks (txOf L p)) (toks (txOf L n))) row
def orgRow (L : List Dr) (A : Nat → List Nat) (n : Nat) : List Nat := (parsOf L n).reverse.foldl (orgStep L A n) (List.replicate (toks (txOf L n)).length n)
def orgAll (L : List Dr) : Nat → List (List Nat)
  | 0 => []
  | n + 1 => orgAll L n ++ [orgRow L (fun p => (orgAll L n).getD p []) n]
theorem orgAll_length (L : List Dr) : ∀ n, (orgAll L n).length = n
  | 0 => rfl
  | n + 1 => by rw [orgAll, List.length_append, orgAll_length L n]; rfl
/-- the drafts in which the tokens of draft n came -/
def orgK (L : List Dr) (n : Nat) : List Nat := orgRow L (fun p => (orgAll L n).getD p []) n
theorem orgAll_get (L : List Dr) {p : Nat} : ∀ {n : Nat}, p < n → (orgAll L n).getD p [] = orgK L p
  | n + 1, h => by
    rw [orgAll]
    by_cases hp : p < n
    · rw [List.getD_eq_getElem?_getD, List.getElem?_append_left (by rw [orgAll_length]; exact hp), ← List.getD_eq_getElem?_getD]
      exact orgAll_get L hp
    · obtain rfl : p = n := by omega
      rw [List.getD_eq_getElem?_getD, List.getElem?_append_right (by rw [orgAll_length]; omega), orgAll_length]
      simp [orgK]
theorem foldl_same {α β : Type} {f g : α → β → α} : ∀ {l : List β} {a : α}, (∀ a, ∀ x ∈ l, f a x = g a x) → l.foldl f a = l.foldl g a
  | [], _, _ => rfl
  | x :: l, a, h => by
    rw [List.foldl_cons, List.foldl_cons, h a x List.mem_cons_self]
    exact foldl_same (fun a y hy => h a y (List.mem_cons_of_mem _ hy))
theorem orgK_eq {L : List Dr} (hf : Falls L) (n : Nat) : orgK L n = (parsOf L n).reverse.foldl (orgStep L (orgK L) n) (List.replicate (toks (txOf L n)).length n) := by
  show orgRow L _ n = _
  unfold orgRow
  refine foldl_same fun a p hp => ?_
  unfold orgStep
  show setAll ((orgAll L n).getD p []) _ a = _
  rw [orgAll_get L (hf n p (List.mem_reverse.1 hp))]
theorem orgStep_length (L : List Dr) (A : Nat → List Nat) (n : Nat) (row : List Nat) (p : Nat) : (orgStep L A n row p).length = row.length := setAll_length _ _ _
theorem orgFold_length (L : List Dr) (A : Nat → List Nat) (n : Nat) : ∀ (ps : List Nat) (row : List Nat), (ps.foldl (orgStep L A n) row).length = row.length
  | [], _ => rfl
  | p :: ps, row => by rw [List.foldl_cons, orgFold_length L A n ps, orgStep_length]
theorem orgK_length (L : List Dr) (n : Nat) : (orgK L n).length = (toks (txOf L n)).length := by
  show (orgRow L _ n).length = _
  unfold orgRow
  rw [orgFold_length, List.length_replicate]
/-- a row of origins: none yet, or a block and what it holds -/
abbrev Ro := Option (Nat × List Nat)
def roV : Ro → List Value
  | none => [.slice none 0 0]
  | some x => [.slice (some ⟨x.1, 0, none⟩) x.2.length x.2.length]
def roH (T : TypeId) : Ro → SHeap
  | none => []
  | some x => [.row (some ⟨x.1, 0, none⟩) x.2.length T 1 (nums x.2)]
def rosH (T : TypeId) (R : List Ro) : SHeap := R.flatMap (roH T)
/-- the slices of all rows: those that are made, and nil ones -/
def allV (R : List Ro) (k : Nat) : List (List Value) := R.map roV ++ List.replicate (k - R.length) [.slice none 0 0]
theorem allV_length {R : List Ro} {k : Nat} (h : R.length ≤ k) : (allV R k).length = k := by unfold allV; simp; omega
theorem allV_get {R : List Ro} {k i : Nat} {x : Ro} (h : R[i]? = some x) : (allV R k)[i]? = some (roV x) := by
  unfold allV
  rw [List.getElem?_append_left (by rw [List.length_map]; exact (List.getElem?_eq_some_iff.1 h).1), List.getElem?_map, h]; rfl
theorem allV_none {R : List Ro} {k : Nat} (h : R.length < k) : allV (R ++ [none]) k = allV R k := by
  unfold allV
  rw [List.map_append, List.append_assoc]
  congr 1
  rw [show k - R.length = (k - (R ++ [none]).length) + 1 by rw [List.length_append, List.length_singleton]; omega, List.replicate_succ]
  rfl
theorem allV_set {R : List Ro} {k : Nat} {x : Ro} (h : R.length < k) : (allV R k).set R.length (roV x) = allV (R ++ [x]) k := by
  unfold allV
  rw [List.set_append_right _ _ (by simp), List.length_map, Nat.sub_self, List.map_append, List.append_assoc]
  congr 1
  rw [show k - R.length = (k - (R ++ [x]).length) + 1 by rw [List.length_append, List.length_singleton]; omega, List.replicate_succ]
  rfl
end Go.Eng

/-
  Texts of tokens that follow one another: their text has just these tokens. No condition.
-/
namespace Go.Eng
open Go
theorem uGo_split : ∀ (ps : List Pc) (u : Un) (U1 U2 : List Un), uGo (some u) ps = U1 ++ U2 → U1 ≠ [] → ∃ P1 P2, ps = P1 ++ P2 ∧ uGo (some u) P1 = U1 ∧ uGo none P2 = U2
  | [], u, U1, U2, h, h1 => by
    cases U1 with
    | nil => exact absurd rfl h1
    | cons x U1 =>
      have h' : [u] = x :: (U1 ++ U2) := h
      obtain ⟨rfl, h2⟩ := List.cons.inj h'
      obtain ⟨rfl, rfl⟩ := List.append_eq_nil_iff.1 h2.symm
      exact ⟨[], [], rfl, rfl, rfl⟩
  | p :: ps, u, U1, U2, h, h1 => by
    by_cases hm : kindP p = 2 ∧ ¬ bareK u.k
    · rw [uGo_mark hm] at h
      obtain ⟨P1, P2, e1, e2, e3⟩ := uGo_split ps _ _ _ h h1
      exact ⟨p :: P1, P2, by rw [e1]; rfl, by rw [uGo_mark hm]; exact e2, e3⟩
    · rw [uGo_free hm] at h
      cases U1 with
      | nil => exact absurd rfl h1
      | cons x U1 =>
        obtain ⟨rfl, h2⟩ := List.cons.inj (show u :: uGo (some (headU p)) ps = x :: (U1 ++ U2) from h)
        by_cases hU : U1 = []
        · subst hU
          exact ⟨[], p :: ps, rfl, rfl, by rw [uGo_none]; exact h2⟩
        · obtain ⟨P1, P2, e1, e2, e3⟩ := uGo_split ps _ _ _ h2 hU
          exact ⟨p :: P1, P2, by rw [e1]; rfl, by rw [uGo_free hm, e2], e3⟩
theorem uGo_split0 {ps : List Pc} {U1 U2 : List Un} (h : uGo none ps = U1 ++ U2) : ∃ P1 P2, ps = P1 ++ P2 ∧ uGo none P1 = U1 ∧ uGo none P2 = U2 := by
  by_cases hU : U1 = []
  · subst hU; exact ⟨[], ps, rfl, rfl, h⟩
  · cases ps with
    | nil =>
      have h' : [] = U1 ++ U2 := h
      exact absurd (List.append_eq_nil_iff.1 h'.symm).1 hU
    | cons p ps =>
      rw [uGo_none] at h
      obtain ⟨P1, P2, e1, e2, e3⟩ := uGo_split ps _ _ _ h hU
      exact ⟨p :: P1, P2, by rw [e1]; rfl, by rw [uGo_none]; exact e2, e3⟩
theorem runU_pre {k : Nat} {J : Un → Bool} : ∀ (A B : List Un), runU k J (A ++ B) ≤ A.length → runU k J A = runU k J (A ++ B)
  | [], B, h => by
    have h0 : runU k J ([] ++ B) = 0 := Nat.le_zero.1 h
    rw [h0]; rfl
  | [v], [], h => rfl
  | [v], w :: B, h => by
    have h' : runU k J (v :: w :: B) ≤ 1 := h
    show runU k J [v] = runU k J (v :: w :: B)
    rw [runU] at h' ⊢
    rw [runU]
    by_cases hk : v.k = k
    · rw [if_pos hk] at h' ⊢
      rw [if_pos hk]
      omega
    · rw [if_neg hk] at h' ⊢
      rw [if_neg hk]
      split at h'
      · omega
      · next hj => rw [if_neg hj]
  | v :: w :: A, B, h => by
    have h' : runU k J (v :: w :: (A ++ B)) ≤ A.length + 2 := h
    show runU k J (v :: w :: A) = runU k J (v :: w :: (A ++ B))
    rw [runU] at h' ⊢
    rw [runU]
    by_cases hk : v.k = k
    · rw [if_pos hk] at h' ⊢
      rw [if_pos hk]
      have := runU_pre (k := k) (J := J) (w :: A) B (by rw [List.length_cons]; exact Nat.le_of_succ_le_succ h')
      rw [this]; rfl
    · rw [if_neg hk] at h' ⊢
      rw [if_neg hk]
      split at h'
      · next hj =>
        rw [if_pos hj, if_pos hj, runU_pre A B (by omega)]
      · next hj => rw [if_neg hj, if_neg hj]
theorem takeN_pre (u : Un) (A B : List Un) (h : takeN u (A ++ B) ≤ A.length) : takeN u A = takeN u (A ++ B) := by
  unfold takeN at *
  by_cases h1 : u.k = 1
  · rw [if_pos h1] at h ⊢; rw [if_pos h1]; exact runU_pre A B h
  rw [if_neg h1] at h ⊢; rw [if_neg h1]
  by_cases h3 : u.k = 3
  · rw [if_pos h3] at h ⊢; rw [if_pos h3]; exact runU_pre A B h
  rw [if_neg h3] at h ⊢; rw [if_neg h3]
  by_cases h5 : u.k = 5
  · rw [if_pos h5] at h ⊢; rw [if_pos h5]; exact runU_pre A B h
  rw [if_neg h5] at h ⊢; rw [if_neg h5]
  by_cases h11 : u.k = 11
  · rw [if_pos h11] at h ⊢; rw [if_pos h11]; exact runU_pre A B h
  rw [if_neg h11] at h ⊢; rw [if_neg h11]
  by_cases h4 : u.k = 4 ∧ u.r = 13
  · rw [if_pos h4] at h ⊢; rw [if_pos h4]
    cases A with
    | nil =>
      rw [List.nil_append] at h ⊢
      cases B with
      | nil => rfl
      | cons v B =>
        simp only [List.length_nil] at h
        exact (Nat.le_zero.1 h).symm
    | cons v A => rfl
  · rw [if_neg h4, if_neg h4]
theorem lastZ_pre {z n : Nat} {A B : List Un} (h : n ≤ A.length) : lastZ z A n = lastZ z (A ++ B) n := by
  unfold lastZ
  split
  · rfl
  · rw [List.getElem?_append_left (by omega)]
theorem scan_cons {us : List Un} {u : Un} (ho : ∀ x ∈ u :: us, UOk x) : scGo scan0 (u :: us) = ⟨(beginK u).1, u.a, lastZ u.z us (takeN u us)⟩ :: scGo scan0 (us.drop (takeN u us)) := by
  rw [scan_run (us.length + 1) (u :: us) (Nat.le_refl _) ho, rTok, scan_run us.length (us.drop (takeN u us)) (by rw [List.length_drop]; omega) fun x hx => ho x (List.mem_cons_of_mem _ (List.mem_of_mem_drop hx))]
theorem scan_split : ∀ (n : Nat) (us : List Un) (T1 T2 : List Tk), us.length ≤ n → (∀ x ∈ us, UOk x) → scGo scan0 us = T1 ++ T2 → ∃ U1 U2, us = U1 ++ U2 ∧ scGo scan0 U1 = T1 ∧ scGo scan0 U2 = T2
  | _, us, [], T2, _, _, h => ⟨[], us, rfl, rfl, h⟩
  | _, [], t :: T1, T2, _, _, h => by rw [scan0_nil] at h; cases h
  | 0, u :: us, t :: T1, T2, hl, _, h => by simp at hl
  | n + 1, u :: us, t :: T1, T2, hl, ho, h => by
    have hle := takeN_le u us
    rw [scan_cons ho, List.cons_append] at h
    obtain ⟨h1, h2⟩ := List.cons.inj h
    obtain ⟨V1, V2, e1, e2, e3⟩ := scan_split n (us.drop (takeN u us)) T1 T2 (by rw [List.length_drop]; rw [List.length_cons] at hl; omega) (fun x hx => ho x (List.mem_cons_of_mem _ (List.mem_of_mem_drop hx))) h2
    have hus : us = (us.take (takeN u us) ++ V1) ++ V2 := by rw [List.append_assoc, ← e1, List.take_append_drop]
    have hlen : (us.take (takeN u us)).length = takeN u us := by rw [List.length_take]; omega
    have ht : takeN u (us.take (takeN u us) ++ V1) = takeN u us := by
      have := takeN_pre u (us.take (takeN u us) ++ V1) V2 (by rw [← hus, List.length_append, hlen]; omega)
      rw [this, ← hus]
    refine ⟨u :: (us.take (takeN u us) ++ V1), V2, by rw [List.cons_append, ← hus], ?_, e3⟩
    rw [scan_cons (fun x hx => ho x (by rw [hus, ← List.cons_append]; exact List.mem_append_left _ hx)), ht, ← h1]
    congr 1
    · rw [lastZ_pre (B := V2) (by rw [List.length_append, hlen]; omega), ← hus]
    · rw [List.drop_append_of_le_length (by rw [hlen]; exact Nat.le_refl _), List.drop_of_length_le (by rw [hlen]; exact Nat.le_refl _), List.nil_append]
      exact e2
def Un.sh (u : Un) (n : Nat) : Un := ⟨u.k, u.r, u.a + n, u.z + n, u.o⟩
def Tk.sh (t : Tk) (n : Nat) : Tk := ⟨t.k, t.a + n, t.z + n⟩
def Pc.mv (p : Pc) (n : Nat) : Pc := ⟨p.at_ + n, p.w, p.r, p.b⟩
theorem headU_mv (p : Pc) (n : Nat) : headU (p.mv n) = (headU p).sh n := by
  unfold headU Un.sh Pc.mv kindP
  simp only [Un.mk.injEq, true_and, and_true]
  omega
theorem ext_mv (u : Un) (p : Pc) (n : Nat) : (u.sh n).ext (p.mv n) = (u.ext p).sh n := by
  unfold Un.ext Un.sh Pc.mv
  simp only [Un.mk.injEq, true_and, and_true]
  omega
theorem uGo_mv (n : Nat) : ∀ (ps : List Pc) (u : Un), uGo (some (u.sh n)) (ps.map (Pc.mv · n)) = (uGo (some u) ps).map (Un.sh · n)
  | [], u => rfl
  | p :: ps, u => by
    rw [List.map_cons]
    by_cases hm : kindP p = 2 ∧ ¬ bareK u.k
    · rw [uGo_mark hm, uGo_mark (show kindP (p.mv n) = 2 ∧ ¬ bareK (u.sh n).k from hm), ext_mv]
      exact uGo_mv n ps _
    · rw [uGo_free hm, uGo_free (show ¬ (kindP (p.mv n) = 2 ∧ ¬ bareK (u.sh n).k) from hm), headU_mv, List.map_cons, uGo_mv n ps]
theorem uGo_mv0 (n : Nat) (ps : List Pc) : uGo none (ps.map (Pc.mv · n)) = (uGo none ps).map (Un.sh · n) := by
  cases ps with
  | nil => rfl
  | cons p ps => rw [List.map_cons, uGo_none, uGo_none, headU_mv, uGo_mv]
theorem fits_sh (st : Nat) (u : Un) (n : Nat) : fitsS st (u.sh n) = fitsS st u := rfl
theorem endS_sh (st : Nat) (t : Tk) (h : Un) (n : Nat) : endS ⟨st, t.sh n, h.sh n⟩ = (endS ⟨st, t, h⟩).map (Tk.sh · n) := by
  unfold endS
  simp only
  split
  · rfl
  · split <;> rfl
theorem scGo_sh (n : Nat) : ∀ (us : List Un) (st : Nat) (t : Tk) (h : Un), scGo ⟨st, t.sh n, h.sh n⟩ (us.map (Un.sh · n)) = (scGo ⟨st, t, h⟩ us).map (Tk.sh · n)
  | [], st, t, h => endS_sh st t h n
  | u :: us, st, t, h => by
    rw [List.map_cons, scGo, scGo, List.map_append]
    congr 1
    · unfold Sc.told
      rw [fits_sh]
      split
      · exact endS_sh st t h n
      · rfl
    · unfold Sc.step
      rw [fits_sh]
      split
      · exact scGo_sh n us _ ⟨t.k, t.a, u.z⟩ h
      · split
        · exact scGo_sh n us _ t u
        · exact scGo_sh n us _ ⟨(beginK u).1, u.a, u.z⟩ h
theorem scan_sh (n : Nat) (us : List Un) : scGo scan0 (us.map (Un.sh · n)) = (scGo scan0 us).map (Tk.sh · n) := by
  cases us with
  | nil => rfl
  | cons u us =>
    rw [List.map_cons, scan0_cons u us ⟨0, 0, 0, 0, false⟩, scan0_cons (u.sh n) _ ((⟨0, 0, 0, 0, false⟩ : Un).sh n)]
    exact scGo_sh n us _ ⟨(beginK u).1, u.a, u.z⟩ _
/-- a text cut where a token begins -/
theorem tokens_cut {s : List UInt8} {T1 T2 : List Tk} (h : tokens s = T1 ++ T2) : ∃ a, a ≤ s.length ∧ tokens (s.take a) = T1 ∧ T2 = (tokens (s.drop a)).map (Tk.sh · a) := by
  obtain ⟨U1, U2, e1, e2, e3⟩ := scan_split _ (unitsL s) T1 T2 (Nat.le_refl _) (units_ok s) h
  obtain ⟨P1, P2, g1, g2, g3⟩ := uGo_split0 (show uGo none (pieces s) = U1 ++ U2 from e1)
  obtain ⟨a, ha, hP⟩ : ∃ a, a ≤ s.length ∧ P2 = from_ s a := by
    cases P2 with
    | nil => exact ⟨s.length, Nat.le_refl _, (from_nil (Nat.lt_irrefl _)).symm⟩
    | cons p P2 =>
      obtain ⟨h1, h2, h3, _⟩ := pieces_split g1
      exact ⟨p.at_, Nat.le_of_lt h1, h3⟩
  refine ⟨a, ha, ?_, ?_⟩
  · show scGo scan0 (uGo none (pieces (s.take a))) = T1
    rw [pieces_take ha (by rw [← hP]; exact g1), g2, e2]
  · have hge : ∀ q ∈ P2, a ≤ q.at_ := by
      intro q hq
      rw [hP] at hq
      obtain ⟨A, B, e⟩ := List.append_of_mem hq
      exact (from_split s s.length a (by omega) A q B e).1
    have hmv : P2 = (pieces (s.drop a)).map (Pc.mv · a) := by
      rw [pieces_drop, ← hP, List.map_map]
      refine (List.map_id P2).symm.trans (List.map_congr_left fun q hq => ?_)
      have := hge q hq
      show q = (q.sub a).mv a
      unfold Pc.sub Pc.mv
      have e : q.at_ - a + a = q.at_ := by omega
      simp only [e]
    rw [← e3, ← g3, hmv, uGo_mv0, scan_sh]
    rfl
theorem toks_app {s : List UInt8} {X Y : List (List UInt8)} (h : toks s = X ++ Y) : toks X.flatten = X ∧ toks Y.flatten = Y := by
  unfold toks at h
  obtain ⟨T1, T2, hT, hX, hY⟩ := List.map_eq_append_iff.1 h
  obtain ⟨a, ha, h1, h2⟩ := tokens_cut hT
  have e1 : toks (s.take a) = X := by
    unfold toks
    rw [h1, ← hX]
    refine List.map_congr_left fun t ht => ?_
    have hz := (tokens_chain (s.take a)).mem t (h1 ▸ ht)
    unfold tokT
    rw [List.take_take, Nat.min_eq_left (by rw [List.length_take] at hz; omega)]
  have e2 : toks (s.drop a) = Y := by
    unfold toks
    rw [← hY, h2, List.map_map]
    refine List.map_congr_left fun t _ => ?_
    show tokT (s.drop a) t = tokT s (t.sh a)
    unfold tokT Tk.sh
    simp only
    rw [List.drop_take, List.drop_take, List.drop_drop]
    congr 1
    · omega
    · congr 1; omega
  exact ⟨by rw [← e1, toks_join], by rw [← e2, toks_join]⟩
/-- tokens that follow one another are their text's tokens -/
theorem toks_mid {s : List UInt8} {X M Y : List (List UInt8)} (h : toks s = X ++ M ++ Y) : toks M.flatten = M := by
  rw [List.append_assoc] at h
  exact (toks_app (toks_app h).2).1
end Go.Eng

/-
  Origins in plain: parts of a text by the drafts in which their tokens came. No condition.
-/
namespace Go.Eng
open Go
/-- groups of tokens: each with the draft in which they came -/
abbrev Gp := List (List (List UInt8) × Nat)
def gAdd (G : Gp) (x : List UInt8 × Nat) : Gp :=
  match G.getLast? with
  | some g => if g.2 = x.2 then G.dropLast ++ [(g.1 ++ [x.1], g.2)] else G ++ [([x.1], x.2)]
  | none => [([x.1], x.2)]
theorem gAdd_nil (x : List UInt8 × Nat) : gAdd [] x = [([x.1], x.2)] := rfl
theorem gAdd_same {G : Gp} {ts : List (List UInt8)} {d : Nat} {t : List UInt8} : gAdd (G ++ [(ts, d)]) (t, d) = G ++ [(ts ++ [t], d)] := by
  unfold gAdd
  simp
theorem gAdd_new {G : Gp} {ts : List (List UInt8)} {d e : Nat} {t : List UInt8} (h : d ≠ e) : gAdd (G ++ [(ts, d)]) (t, e) = G ++ [(ts, d)] ++ [([t], e)] := by
  unfold gAdd
  simp [h]
def gOf (Z : List (List UInt8 × Nat)) : Gp := Z.foldl gAdd []
theorem gOf_snoc (Z : List (List UInt8 × Nat)) (x : List UInt8 × Nat) : gOf (Z ++ [x]) = gAdd (gOf Z) x := by unfold gOf; rw [List.foldl_append]; rfl
/-- an origin: its span, its draft -/
structure Og where
  a : Nat
  z : Nat
  d : Nat
def ogL : Nat → Gp → List Og
  | _, [] => []
  | at_, g :: G => ⟨at_, at_ + g.1.flatten.length, g.2⟩ :: ogL (at_ + g.1.flatten.length) G
def Gp.size (G : Gp) : Nat := (G.map fun g => g.1.flatten.length).sum
theorem Gp.size_cons (g : List (List UInt8) × Nat) (G : Gp) : Gp.size (g :: G) = g.1.flatten.length + Gp.size G := by unfold Gp.size; simp
theorem ogL_app : ∀ (F G : Gp) (at_ : Nat), ogL at_ (F ++ G) = ogL at_ F ++ ogL (at_ + Gp.size F) G
  | [], G, at_ => rfl
  | g :: F, G, at_ => by
    rw [List.cons_append, ogL, ogL, ogL_app F G, Gp.size_cons, Nat.add_assoc]; rfl
theorem ogL_length : ∀ (G : Gp) (at_ : Nat), (ogL at_ G).length = G.length
  | [], _ => rfl
  | g :: G, at_ => by rw [ogL, List.length_cons, ogL_length G, List.length_cons]
theorem ogL_get : ∀ (G : Gp) (at_ i : Nat) {g : List (List UInt8) × Nat}, G[i]? = some g → (ogL at_ G)[i]? = some ⟨at_ + Gp.size (G.take i), at_ + Gp.size (G.take i) + g.1.flatten.length, g.2⟩
  | [], at_, i, g, h => by cases h
  | x :: G, at_, 0, g, h => by
    obtain rfl : x = g := by simpa using h
    rfl
  | x :: G, at_, i + 1, g, h => by
    rw [ogL, List.getElem?_cons_succ, ogL_get G _ i (by simpa using h), List.take_succ_cons, Gp.size_cons, Nat.add_assoc]
structure GOk (Z : List (List UInt8 × Nat)) (G : Gp) : Prop where
  flat : G.flatMap (fun g => g.1.map fun t => (t, g.2)) = Z
  ne : ∀ g ∈ G, g.1 ≠ []
  adj : ∀ i g h, G[i]? = some g → G[i + 1]? = some h → g.2 ≠ h.2
theorem GOk.add {Z : List (List UInt8 × Nat)} {G : Gp} (h : GOk Z G) (x : List UInt8 × Nat) : GOk (Z ++ [x]) (gAdd G x) := by
  obtain ⟨t, e⟩ := x
  rcases List.eq_nil_or_concat G with rfl | ⟨F, ⟨ts, d⟩, rfl⟩
  · have hz : Z = [] := h.flat.symm
    subst hz
    exact ⟨rfl, fun g hg => by rw [gAdd_nil] at hg; rw [List.mem_singleton] at hg; subst hg; simp, fun i g k h1 h2 => by rw [gAdd_nil] at h2; simp at h2⟩
  · rw [List.concat_eq_append] at h ⊢
    by_cases he : d = e
    · subst he
      rw [gAdd_same]
      refine ⟨?_, fun g hg => ?_, fun i g k h1 h2 => ?_⟩
      · have := h.flat
        rw [List.flatMap_append] at this ⊢
        rw [← this]
        simp
      · rcases List.mem_append.1 hg with hg | hg
        · exact h.ne g (List.mem_append_left _ hg)
        · rw [List.mem_singleton] at hg; subst hg; simp
      · have hl := (List.getElem?_eq_some_iff.1 h2).1
        rw [List.length_append, List.length_singleton] at hl
        rw [List.getElem?_append_left (by omega)] at h1
        by_cases hi : i + 1 < F.length
        · rw [List.getElem?_append_left hi] at h2
          exact h.adj i g k (by rw [List.getElem?_append_left (by omega)]; exact h1) (by rw [List.getElem?_append_left hi]; exact h2)
        · have hi2 : i + 1 = F.length := by omega
          rw [hi2, List.getElem?_append_right (Nat.le_refl _), Nat.sub_self] at h2
          have hk : k.2 = d := by simp at h2; rw [← h2]
          have := h.adj i g (ts, d) (by rw [List.getElem?_append_left (by omega)]; exact h1) (by rw [hi2, List.getElem?_append_right (Nat.le_refl _), Nat.sub_self]; rfl)
          rw [hk]; exact this
    · rw [gAdd_new he]
      refine ⟨?_, fun g hg => ?_, fun i g k h1 h2 => ?_⟩
      · rw [List.flatMap_append, h.flat]; rfl
      · rcases List.mem_append.1 hg with hg | hg
        · exact h.ne g hg
        · rw [List.mem_singleton] at hg; subst hg; simp
      · have hl := (List.getElem?_eq_some_iff.1 h2).1
        rw [List.length_append, List.length_append, List.length_singleton, List.length_singleton] at hl
        rw [List.getElem?_append_left (by rw [List.length_append, List.length_singleton]; omega)] at h1
        by_cases hi : i + 1 < F.length + 1
        · rw [List.getElem?_append_left (by rw [List.length_append, List.length_singleton]; exact hi)] at h2
          exact h.adj i g k h1 h2
        · have hi2 : i = F.length := by omega
          subst hi2
          rw [List.getElem?_append_right (Nat.le_refl _), Nat.sub_self] at h1
          rw [List.getElem?_append_right (by rw [List.length_append, List.length_singleton]; exact Nat.le_refl _), List.length_append, List.length_singleton, Nat.sub_self] at h2
          simp at h1 h2
          rw [← h1, ← h2]; exact he
theorem gOf_ok (Z : List (List UInt8 × Nat)) : GOk Z (gOf Z) := by
  have h : ∀ (n : Nat) (Z : List (List UInt8 × Nat)), Z.length = n → GOk Z (gOf Z) := by
    intro n
    induction n with
    | zero => intro Z hz; obtain rfl := List.length_eq_zero_iff.1 hz; exact ⟨rfl, fun g hg => (by cases hg), fun i g k h1 => (by cases h1)⟩
    | succ n ih =>
      intro Z hz
      rcases List.eq_nil_or_concat Z with rfl | ⟨Y, x, rfl⟩
      · cases hz
      · rw [List.concat_eq_append] at hz ⊢
        rw [List.length_append, List.length_singleton] at hz
        rw [gOf_snoc]
        exact (ih Y (by omega)).add x
  exact h _ Z rfl
theorem GOk.texts {Z : List (List UInt8 × Nat)} {G : Gp} (h : GOk Z G) : Z.map (·.1) = G.flatMap (·.1) := by
  rw [← h.flat]
  clear h
  induction G with
  | nil => rfl
  | cons g G ih =>
    rw [List.flatMap_cons, List.flatMap_cons, List.map_append, ih, List.map_map]
    congr 1
    exact (List.map_congr_left fun _ _ => rfl).trans (List.map_id _)
theorem size_texts : ∀ G : Gp, Gp.size G = (G.flatMap (·.1)).flatten.length
  | [] => rfl
  | g :: G => by rw [Gp.size_cons, List.flatMap_cons, List.flatten_append, List.length_append, size_texts G]
/-- the tokens of a text, each with its draft -/
def orgZ (L : List Dr) (k : Nat) : List (List UInt8 × Nat) := (toks (txOf L k)).zip (orgK L k)
theorem orgZ_length (L : List Dr) (k : Nat) : (orgZ L k).length = (toks (txOf L k)).length := by unfold orgZ; rw [List.length_zip, orgK_length, Nat.min_self]
theorem orgZ_texts (L : List Dr) (k : Nat) : (orgZ L k).map (·.1) = toks (txOf L k) := by
  unfold orgZ
  exact List.map_fst_zip (by rw [orgK_length]; exact Nat.le_refl _)
def orgG (L : List Dr) (k : Nat) : Gp := gOf (orgZ L k)
/-- a part of a text by its drafts: the tokens of its own text, and where it lies -/
theorem orgG_part {L : List Dr} {k i : Nat} {g : List (List UInt8) × Nat} (h : (orgG L k)[i]? = some g) :
    toks g.1.flatten = g.1 ∧ ((txOf L k).drop (Gp.size ((orgG L k).take i))).take g.1.flatten.length = g.1.flatten ∧ Gp.size ((orgG L k).take i) + g.1.flatten.length ≤ (txOf L k).length ∧ 0 < g.1.flatten.length ∧ (∀ t ∈ g.1, (t, g.2) ∈ orgZ L k) := by
  have ho := gOf_ok (orgZ L k)
  have ht := ho.texts
  rw [orgZ_texts] at ht
  have hsp : orgG L k = (orgG L k).take i ++ g :: (orgG L k).drop (i + 1) := by
    have hi := (List.getElem?_eq_some_iff.1 h).1
    have hg := (List.getElem?_eq_some_iff.1 h).2
    rw [← hg, ← List.drop_eq_getElem_cons hi, List.take_append_drop]
  have hm : g ∈ orgG L k := List.mem_of_getElem? h
  have ht2 : toks (txOf L k) = ((orgG L k).take i).flatMap (·.1) ++ g.1 ++ ((orgG L k).drop (i + 1)).flatMap (·.1) := by
    rw [ht]
    show (orgG L k).flatMap (·.1) = _
    have e := congrArg (List.flatMap (·.1)) hsp
    rw [List.flatMap_append, List.flatMap_cons, ← List.append_assoc] at e
    exact e
  have hj := toks_join (txOf L k)
  rw [ht2, List.flatten_append, List.flatten_append, List.append_assoc] at hj
  have hz := size_texts ((orgG L k).take i)
  refine ⟨toks_mid ht2, ?_, ?_, ?_, fun t h2 => ?_⟩
  · rw [hz, ← hj, List.drop_append_of_le_length (Nat.le_refl _), List.drop_of_length_le (Nat.le_refl _), List.nil_append, List.take_append_of_le_length (Nat.le_refl _), List.take_of_length_le (Nat.le_refl _)]
  · rw [hz, ← hj]; simp only [List.length_append]; omega
  · have hne := ho.ne g hm
    cases hg : g.1 with
    | nil => exact absurd hg hne
    | cons x xs =>
      have hx : x ∈ toks (txOf L k) := by rw [ht2, hg]; simp
      have := toks_some _ x hx
      have := List.length_pos_iff.2 this
      rw [List.flatten_cons, List.length_append]; omega
  · have := ho.flat
    rw [← this]
    exact List.mem_flatMap.2 ⟨g, hm, List.mem_map.2 ⟨t, h2, rfl⟩⟩
theorem orgG_size (L : List Dr) (k : Nat) : Gp.size (orgG L k) = (txOf L k).length := by
  have ho := (gOf_ok (orgZ L k)).texts
  rw [orgZ_texts] at ho
  rw [size_texts]
  show ((gOf (orgZ L k)).flatMap (·.1)).flatten.length = _
  rw [← ho, toks_join]
theorem setAll_get {src : List Nat} {j d : Nat} : ∀ (M : List (Nat × Nat)) (row : List Nat), (setAll src M row)[j]? = some d → row[j]? = some d ∨ ∃ x ∈ M, x.2 = j ∧ src.getD x.1 0 = d
  | [], row, h => .inl h
  | x :: M, row, h => by
    have h' : (setAll src M (row.set x.2 (src.getD x.1 0)))[j]? = some d := h
    rcases setAll_get M _ h' with h1 | ⟨y, hy, h1⟩
    · rw [List.getElem?_set] at h1
      split at h1
      · next hj =>
        split at h1
        · exact .inr ⟨x, List.mem_cons_self, hj, by simpa using h1⟩
        · cases h1
      · exact .inl h1
    · exact .inr ⟨y, List.mem_cons_of_mem _ hy, h1⟩
theorem orgFold_get {L : List Dr} {A : Nat → List Nat} {n j d : Nat} : ∀ (ps : List Nat) (row : List Nat), (ps.foldl (orgStep L A n) row)[j]? = some d →
    row[j]? = some d ∨ ∃ p ∈ ps, ∃ x ∈ matchL (toks (txOf L p)) (toks (txOf L n)), x.2 = j ∧ (A p).getD x.1 0 = d
  | [], row, h => .inl h
  | p :: ps, row, h => by
    rw [List.foldl_cons] at h
    rcases orgFold_get ps _ h with h1 | ⟨q, hq, h1⟩
    · rcases setAll_get _ _ h1 with h2 | ⟨x, hx, h2⟩
      · exact .inl h2
      · exact .inr ⟨p, List.mem_cons_self, x, hx, h2⟩
    · exact .inr ⟨q, List.mem_cons_of_mem _ hq, h1⟩
theorem PrOk.mem {a b : List Tx} : ∀ {l : List (Nat × Nat)} {i k n m : Nat}, PrOk a b i k l n m → ∀ p ∈ l, p.1 < n ∧ p.2 < m ∧ ∃ x, a[p.1]? = some x ∧ b[p.2]? = some x
  | [], _, _, _, _, _, p, hp => by cases hp
  | q :: l, i, k, n, m, h, p, hp => by
    obtain ⟨h1, h2, h3, h4, h5, h6⟩ := h
    rcases List.mem_cons.1 hp with rfl | hp
    · exact ⟨h3, h4, h5⟩
    · exact h6.mem p hp
/-- a token that came in a draft is a token of that draft's, and the draft is in the line -/
theorem orgK_own {L : List Dr} (hf : Falls L) : ∀ (n j d : Nat) (t : List UInt8), (orgK L n)[j]? = some d → (toks (txOf L n))[j]? = some t → t ∈ toks (txOf L d) ∧ Anc L d n := by
  intro n
  induction n using Nat.strongRecOn with
  | _ n ih =>
    intro j d t hd ht
    rw [orgK_eq hf] at hd
    rcases orgFold_get _ _ hd with h1 | ⟨p, hp, x, hx, rfl, h2⟩
    · obtain ⟨h1, h3⟩ := List.getElem?_eq_some_iff.1 h1
      rw [List.getElem_replicate] at h3
      subst h3
      exact ⟨List.mem_of_getElem? ht, .self _⟩
    · have hp' := List.mem_reverse.1 hp
      obtain ⟨h3, h4, y, h5, h6⟩ := (match_ok (toks (txOf L p)) (toks (txOf L n))).mem x hx
      rw [ht] at h6
      obtain rfl := Option.some.inj h6
      have hl := orgK_length L p
      have hg : (orgK L p)[x.1]? = some d := by
        rw [List.getD_eq_getElem?_getD, List.getElem?_eq_getElem (by omega)] at h2
        rw [List.getElem?_eq_getElem (by omega)]
        exact congrArg some (by simpa using h2)
      obtain ⟨g1, g2⟩ := ih p (hf n p hp') x.1 d t hg h5
      exact ⟨g1, .up hp' g2⟩
theorem orgG_own {L : List Dr} (hf : Falls L) {k i : Nat} {g : List (List UInt8) × Nat} (h : (orgG L k)[i]? = some g) : (∀ t ∈ g.1, t ∈ toks (txOf L g.2)) ∧ Anc L g.2 k := by
  obtain ⟨h1, h2, h3, h4, h5⟩ := orgG_part h
  have hall : ∀ t ∈ g.1, t ∈ toks (txOf L g.2) ∧ Anc L g.2 k := by
    intro t ht
    obtain ⟨j, hj, hz⟩ := List.getElem_of_mem (h5 t ht)
    have hjl := orgZ_length L k
    have hkl := orgK_length L k
    have hz2 : (toks (txOf L k))[j]'(by omega) = t ∧ (orgK L k)[j]'(by omega) = g.2 := by
      have hz' := (show ((toks (txOf L k)).zip (orgK L k))[j]'hj = ((toks (txOf L k))[j]'(by omega), (orgK L k)[j]'(by omega)) from List.getElem_zip).symm.trans hz
      exact ⟨congrArg (·.1) hz', congrArg (·.2) hz'⟩
    exact orgK_own hf k j g.2 t (by rw [List.getElem?_eq_getElem (by omega), hz2.2]) (by rw [List.getElem?_eq_getElem (by omega), hz2.1])
  refine ⟨fun t ht => (hall t ht).1, ?_⟩
  cases hg : g.1 with
  | nil => rw [hg] at h4; simp at h4
  | cons x xs => exact (hall x (by rw [hg]; exact List.mem_cons_self)).2
end Go.Eng

/-
  A walk's engine: a row of one's own, let stand for good. No condition.
-/
set_option linter.all false
namespace Go.Eng
open Go Go.RowKit
theorem rowR_holds {w0 : World} {m : Mem} {H : SHeap} {a : Option Addr} {cap : Nat} {T : TypeId} {sz : Nat} {es : List (List Value)} (hm : ∀ w, Sat w0 m H w → Item.holds w (.row a cap T sz es)) : RowR w0 m H sz a es := by
  intro w hs
  have h := hm w hs
  cases a with
  | none =>
    have h' : es = [] ∧ cap = 0 := h
    obtain ⟨rfl, _⟩ := h'
    exact ⟨fun _ h => (by cases h), rfl⟩
  | some a =>
    obtain ⟨arr, fz, h1, h2, h3, h4, h5, h6, _⟩ := h
    refine ⟨h6, fun j v hj => ?_⟩
    rw [add_eq (by rw [h1])]
    have ho : a.off = 0 := by rw [h1]
    have hl := flat_len h6
    have hlt := (List.getElem?_eq_some_iff.1 hj).1
    have h8 : arr.toList[j]? = some v := by rw [← h5, List.getElem?_take_of_lt (by omega)] at hj; exact hj
    simp only [ho, Nat.zero_add, World.cell?, h2]
    rw [← Array.getElem?_toList]; exact h8
theorem Sat.persistRow {w0 : World} {m : Mem} {a : Option Addr} {cap : Nat} {T : TypeId} {sz : Nat} {es : List (List Value)} {H : SHeap} {w : World} (h : Sat w0 m (.row a cap T sz es :: H) w) :
    ∃ m', m.le m' ∧ Sat w0 m' H w ∧ ∀ w1 H1, RowR w1 m' H1 sz a es := by
  have hh := h.own _ List.mem_cons_self
  cases a with
  | none =>
    have h' : es = [] ∧ cap = 0 := hh
    obtain ⟨rfl, _⟩ := h'
    exact ⟨m, Mem.le.refl _, h.drop, fun _ _ _ _ => ⟨fun _ h => (by cases h), rfl⟩⟩
  | some a =>
    obtain ⟨arr, fz, h1, h2, h3, h4, h5, h6, h7, h8⟩ := hh
    have hs : Sat w0 m (.blk a.block (.cells arr T fz) :: H) w := by
      refine h.turn rfl rfl rfl (Nat.le_refl _) (fun _ _ _ => rfl) h2 (fun x hx => .inl ?_) (by simp [Item.foot])
      simpa [Item.foot] using hx
    obtain ⟨hp, hle⟩ := hs.persist
    refine ⟨_, hle, hp, fun w1 H1 => rowR_holds (cap := cap) (T := T) fun w2 hs2 => ?_⟩
    exact ⟨arr, fz, h1, hs2.pers _ _ (by simp [Mem.ins]), h3, h4, h5, h6, h7, h8⟩
section
variable {P : Program} {ro : Option Nat} {n : Nat} {w0 : World} {Q : Exit → Act → World → Prop} {r : Env} {ds : List Dfr} {m : Mem} {H : SHeap}
theorem WL.persistRow {ops : Array Oper} {l : List Oper} {a : Option Addr} {cap : Nat} {T : TypeId} {sz : Nat} {es : List (List Value)} {H1 : SHeap} (ho : Out (.row a cap T sz es) H H1) (h : ∀ m', m.le m' → (∀ w1 H2, RowR w1 m' H2 sz a es) → WL P ro n w0 ops Q l r ds m' H1) : WL P ro n w0 ops Q l r ds m H :=
  fun tmps w hok hs => by
    obtain ⟨m', h1, h2, h3⟩ := (hs.perm ho.perm).persistRow
    exact h _ h1 h3 tmps w hok h2
theorem WC.persistRow {c : Code} {a : Option Addr} {cap : Nat} {T : TypeId} {sz : Nat} {es : List (List Value)} {H1 : SHeap} (ho : Out (.row a cap T sz es) H H1) (h : ∀ m', m.le m' → (∀ w1 H2, RowR w1 m' H2 sz a es) → WC P ro n w0 c Q r ds m' H1) : WC P ro n w0 c Q r ds m H :=
  fun tmps w hok hs => by
    obtain ⟨m', h1, h2, h3⟩ := (hs.perm ho.perm).persistRow
    exact h _ h1 h3 tmps w hok h2
theorem WQ.persistRow {e : Exit} {a : Option Addr} {cap : Nat} {T : TypeId} {sz : Nat} {es : List (List Value)} {H1 : SHeap} (ho : Out (.row a cap T sz es) H H1) (h : ∀ m', m.le m' → (∀ w1 H2, RowR w1 m' H2 sz a es) → WQ n w0 Q e r ds m' H1) : WQ n w0 Q e r ds m H :=
  fun tmps w hok hs => by
    obtain ⟨m', h1, h2, h3⟩ := (hs.perm ho.perm).persistRow
    exact h _ h1 h3 tmps w hok h2
end
end Go.Eng

/-
  The walk of a history's origins: one parent's tokens. No condition.
-/
namespace Go.Eng
open Go
def dfr (D : Nat) : Item := .blk D (.deferred (some []))
/-- numbers that lie in memory that stays -/
def NumR (m : Mem) (b : Nat) (O : List Nat) : Prop := ∀ w1 H1, RowR w1 m H1 1 (some ⟨b, 0, none⟩) (nums O)
theorem NumR.le {m m' : Mem} {b : Nat} {O : List Nat} (h : NumR m b O) (hm : m.le m') : NumR m' b O := fun w1 H1 => (h w1 H1).le hm
theorem lineK_up {L : List Dr} (hf : Falls L) {i k p : Nat} (hi : i ∈ lineK L k) (hp : p ∈ parsOf L i) : p ∈ lineK L k :=
  (lineK_mem hf).2 (Anc.trans (.up hp (.self p)) ((lineK_mem hf).1 hi))
theorem nums_set (O : List Nat) (j v : Nat) : (nums O).set j [.int .i64 (v : Int)] = nums (O.set j v) := by unfold nums; rw [List.map_set]
end Go.Eng
namespace Go.Proofs.Ytgckeelnhafgaaa
open Go Go.Eng
set_option maxRecDepth 100000
set_option maxHeartbeats 4000000
set_option linter.all false
attribute [local irreducible] WL WC WQ QFun QLoop Does Q1 QRound QAssign Go.Addr.add
attribute [local irreducible] setAll
theorem sq_D59a_1 {G : Prop} (h : G := by (repeat (first | (refine sp ?_; (repeat intro zzc)) | (refine WL.indexAddrA rfl rfl (by (first | with_reducible exact natz _ | with_reducible exact natz0 | with_reducible exact natz1 | with_reducible exact natz2 | with_reducible exact natz3 | with_reducible exact natz4 | with_reducible exact natz8 | (apply natz_add; (· first | with_reducible exact natz _ | with_reducible exact natz0 | with_reducible exact natz1 | with_reducible exact natz2 | with_reducible exact natz3 | with_reducible exact natz4 | with_reducible exact natz8); (· first | with_reducible exact natz _ | with_reducible exact natz0 | with_reducible exact natz1 | with_reducible exact natz2 | with_reducible exact natz3 | with_reducible exact natz4 | with_reducible exact natz8)) | (apply natz_sub; (· first | with_reducible exact natz _ | with_reducible exact natz0 | with_reducible exact natz1 | with_reducible exact natz2 | with_reducible exact natz3 | with_reducible exact natz4 | with_reducible exact natz8); (· first | with_reducible exact natz _ | with_reducible exact natz0 | with_reducible exact natz1 | with_reducible exact natz2 | with_reducible exact natz3 | with_reducible exact natz4 | with_reducible exact natz8); (· omega)) | exact (Int.toNat_of_nonneg (by omega)).symm)) rfl rfl (by omega) rfl rfl ?_))); exact WQ.q1 rfl) : G := h
theorem st_D59a_1 {G G' : Prop} (next : G') (h : Bx G' → G := by intro zzn; (first | ((refine st ?_; (repeat intro zzc)); (try ((first | (refine WL.indexAddrA rfl rfl (by (first | with_reducible exact natz _ | with_reducible exact natz0 | with_reducible exact natz1 | with_reducible exact natz2 | with_reducible exact natz3 | with_reducible exact natz4 | with_reducible exact natz8 | (apply natz_add; (· first | with_reducible exact natz _ | with_reducible exact natz0 | with_reducible exact natz1 | with_reducible exact natz2 | with_reducible exact natz3 | with_reducible exact natz4 | with_reducible exact natz8); (· first | with_reducible exact natz _ | with_reducible exact natz0 | with_reducible exact natz1 | with_reducible exact natz2 | with_reducible exact natz3 | with_reducible exact natz4 | with_reducible exact natz8)) | (apply natz_sub; (· first | with_reducible exact natz _ | with_reducible exact natz0 | with_reducible exact natz1 | with_reducible exact natz2 | with_reducible exact natz3 | with_reducible exact natz4 | with_reducible exact natz8); (· first | with_reducible exact natz _ | with_reducible exact natz0 | with_reducible exact natz1 | with_reducible exact natz2 | with_reducible exact natz3 | with_reducible exact natz4 | with_reducible exact natz8); (· omega)) | exact (Int.toNat_of_nonneg (by omega)).symm)) rfl rfl (by omega) rfl rfl ?_) | ((refine iDraw ?_; (first | refine WC.drawAll rfl (by decide +kernel) ?_ | refine WC.draw 1 rfl (by decide +kernel) ?_ | refine WC.draw 2 rfl (by decide +kernel) ?_ | refine WC.draw 3 rfl (by decide +kernel) ?_ | refine WC.draw 4 rfl (by decide +kernel) ?_ | refine WC.draw 5 rfl (by decide +kernel) ?_ | refine WC.draw 6 rfl (by decide +kernel) ?_ | refine WC.draw 7 rfl (by decide +kernel) ?_ | refine WC.draw 8 rfl (by decide +kernel) ?_ | refine WC.draw 9 rfl (by decide +kernel) ?_ | refine WC.draw 10 rfl (by decide +kernel) ?_ | refine WC.draw 11 rfl (by decide +kernel) ?_ | refine WC.draw 12 rfl (by decide +kernel) ?_ | refine WC.draw 13 rfl (by decide +kernel) ?_ | refine WC.draw 14 rfl (by decide +kernel) ?_ | refine WC.draw 15 rfl (by decide +kernel) ?_ | refine WC.draw 16 rfl (by decide +kernel) ?_ | refine WC.draw 17 rfl (by decide +kernel) ?_ | refine WC.draw 18 rfl (by decide +kernel) ?_ | refine WC.draw 19 rfl (by decide +kernel) ?_ | refine WC.draw 20 rfl (by decide +kernel) ?_ | refine WC.draw 21 rfl (by decide +kernel) ?_ | refine WC.draw 22 rfl (by decide +kernel) ?_ | refine WC.draw 23 rfl (by decide +kernel) ?_ | refine WC.draw 24 rfl (by decide +kernel) ?_)); (repeat (refine WD.cons rfl (fun c h => by cases h) sq_D59a_1 ?_)); refine WD.nil ?_)); (try (refine st ?_; (repeat intro zzc)))))) | ((first | (refine WL.indexAddrA rfl rfl (by (first | with_reducible exact natz _ | with_reducible exact natz0 | with_reducible exact natz1 | with_reducible exact natz2 | with_reducible exact natz3 | with_reducible exact natz4 | with_reducible exact natz8 | (apply natz_add; (· first | with_reducible exact natz _ | with_reducible exact natz0 | with_reducible exact natz1 | with_reducible exact natz2 | with_reducible exact natz3 | with_reducible exact natz4 | with_reducible exact natz8); (· first | with_reducible exact natz _ | with_reducible exact natz0 | with_reducible exact natz1 | with_reducible exact natz2 | with_reducible exact natz3 | with_reducible exact natz4 | with_reducible exact natz8)) | (apply natz_sub; (· first | with_reducible exact natz _ | with_reducible exact natz0 | with_reducible exact natz1 | with_reducible exact natz2 | with_reducible exact natz3 | with_reducible exact natz4 | with_reducible exact natz8); (· first | with_reducible exact natz _ | with_reducible exact natz0 | with_reducible exact natz1 | with_reducible exact natz2 | with_reducible exact natz3 | with_reducible exact natz4 | with_reducible exact natz8); (· omega)) | exact (Int.toNat_of_nonneg (by omega)).symm)) rfl rfl (by omega) rfl rfl ?_) | ((refine iDraw ?_; (first | refine WC.drawAll rfl (by decide +kernel) ?_ | refine WC.draw 1 rfl (by decide +kernel) ?_ | refine WC.draw 2 rfl (by decide +kernel) ?_ | refine WC.draw 3 rfl (by decide +kernel) ?_ | refine WC.draw 4 rfl (by decide +kernel) ?_ | refine WC.draw 5 rfl (by decide +kernel) ?_ | refine WC.draw 6 rfl (by decide +kernel) ?_ | refine WC.draw 7 rfl (by decide +kernel) ?_ | refine WC.draw 8 rfl (by decide +kernel) ?_ | refine WC.draw 9 rfl (by decide +kernel) ?_ | refine WC.draw 10 rfl (by decide +kernel) ?_ | refine WC.draw 11 rfl (by decide +kernel) ?_ | refine WC.draw 12 rfl (by decide +kernel) ?_ | refine WC.draw 13 rfl (by decide +kernel) ?_ | refine WC.draw 14 rfl (by decide +kernel) ?_ | refine WC.draw 15 rfl (by decide +kernel) ?_ | refine WC.draw 16 rfl (by decide +kernel) ?_ | refine WC.draw 17 rfl (by decide +kernel) ?_ | refine WC.draw 18 rfl (by decide +kernel) ?_ | refine WC.draw 19 rfl (by decide +kernel) ?_ | refine WC.draw 20 rfl (by decide +kernel) ?_ | refine WC.draw 21 rfl (by decide +kernel) ?_ | refine WC.draw 22 rfl (by decide +kernel) ?_ | refine WC.draw 23 rfl (by decide +kernel) ?_ | refine WC.draw 24 rfl (by decide +kernel) ?_)); (repeat (refine WD.cons rfl (fun c h => by cases h) sq_D59a_1 ?_)); refine WD.nil ?_)); (try (refine st ?_; (repeat intro zzc))))); (repeat ((first | (refine WL.indexAddrA rfl rfl (by (first | with_reducible exact natz _ | with_reducible exact natz0 | with_reducible exact natz1 | with_reducible exact natz2 | with_reducible exact natz3 | with_reducible exact natz4 | with_reducible exact natz8 | (apply natz_add; (· first | with_reducible exact natz _ | with_reducible exact natz0 | with_reducible exact natz1 | with_reducible exact natz2 | with_reducible exact natz3 | with_reducible exact natz4 | with_reducible exact natz8); (· first | with_reducible exact natz _ | with_reducible exact natz0 | with_reducible exact natz1 | with_reducible exact natz2 | with_reducible exact natz3 | with_reducible exact natz4 | with_reducible exact natz8)) | (apply natz_sub; (· first | with_reducible exact natz _ | with_reducible exact natz0 | with_reducible exact natz1 | with_reducible exact natz2 | with_reducible exact natz3 | with_reducible exact natz4 | with_reducible exact natz8); (· first | with_reducible exact natz _ | with_reducible exact natz0 | with_reducible exact natz1 | with_reducible exact natz2 | with_reducible exact natz3 | with_reducible exact natz4 | with_reducible exact natz8); (· omega)) | exact (Int.toNat_of_nonneg (by omega)).symm)) rfl rfl (by omega) rfl rfl ?_) | ((refine iDraw ?_; (first | refine WC.drawAll rfl (by decide +kernel) ?_ | refine WC.draw 1 rfl (by decide +kernel) ?_ | refine WC.draw 2 rfl (by decide +kernel) ?_ | refine WC.draw 3 rfl (by decide +kernel) ?_ | refine WC.draw 4 rfl (by decide +kernel) ?_ | refine WC.draw 5 rfl (by decide +kernel) ?_ | refine WC.draw 6 rfl (by decide +kernel) ?_ | refine WC.draw 7 rfl (by decide +kernel) ?_ | refine WC.draw 8 rfl (by decide +kernel) ?_ | refine WC.draw 9 rfl (by decide +kernel) ?_ | refine WC.draw 10 rfl (by decide +kernel) ?_ | refine WC.draw 11 rfl (by decide +kernel) ?_ | refine WC.draw 12 rfl (by decide +kernel) ?_ | refine WC.draw 13 rfl (by decide +kernel) ?_ | refine WC.draw 14 rfl (by decide +kernel) ?_ | refine WC.draw 15 rfl (by decide +kernel) ?_ | refine WC.draw 16 rfl (by decide +kernel) ?_ | refine WC.draw 17 rfl (by decide +kernel) ?_ | refine WC.draw 18 rfl (by decide +kernel) ?_ | refine WC.draw 19 rfl (by decide +kernel) ?_ | refine WC.draw 20 rfl (by decide +kernel) ?_ | refine WC.draw 21 rfl (by decide +kernel) ?_ | refine WC.draw 22 rfl (by decide +kernel) ?_ | refine WC.draw 23 rfl (by decide +kernel) ?_ | refine WC.draw 24 rfl (by decide +kernel) ?_)); (repeat (refine WD.cons rfl (fun c h => by cases h) sq_D59a_1 ?_)); refine WD.nil ?_)); (try (refine st ?_; (repeat intro zzc))))); (repeat revert zzc); exact zzn.out) : G := h ⟨next⟩
theorem org_fill {X Y : List Tx} {M : List (Nat × Nat)} {am : Option Addr} {cpm bo bp ba b5 b7 k i p n0 : Nat} {ro : Option Nat} {O src : List Nat} {RV : List (List Value)} {w0 : World} {m : Mem} {Hr : SHeap} {Q : Exit → Act → World → Prop}
    (hMok : PrOk X Y 0 0 M src.length O.length) (hMl : M.length ≤ 65536) (hRVl : RV.length = k + 1) (hi : i ≤ k + 1) (hk : k ≤ 1000000) (hOl : O.length = n0) (hRVi : RV[i]? = some [.slice (some ⟨bo, 0, none⟩) n0 n0]) (hRVp : RV[p]? = some [.slice (some ⟨bp, 0, none⟩) src.length src.length]) (hsrc : NumR m bp src)
    (hK : WQ 90 w0 Q (.exit 4) [(11, .int .i64 (p : Int)), (7, .pointer (some ⟨b7, 0, none⟩)), (5, .pointer (some ⟨b5, 0, none⟩))] [] m (.row (some ⟨bo, 0, none⟩) n0 3 1 (nums (setAll src M O)) :: .blk b5 (.cells [.slice (some ⟨ba, 0, none⟩) (k + 1) (k + 1)].toArray 110 (0, 0)) :: .blk b7 (.cells [.int .i64 (i : Int)].toArray 3 (0, 0)) :: .row (some ⟨ba, 0, none⟩) (k + 1) 67 1 RV :: Hr)) :
    WC Try.prog ro 90 w0 ((loopsIn (Try.f20.body.getD .skip)).getD 1 .skip) Q [(65, .int .i64 0), (64, .int .i64 (M.length : Int)), (63, .slice am M.length cpm), (11, .int .i64 (p : Int)), (7, .pointer (some ⟨b7, 0, none⟩)), (5, .pointer (some ⟨b5, 0, none⟩))] [] m
      (.row am cpm 93 2 (M.map prE) :: .row (some ⟨bo, 0, none⟩) n0 3 1 (nums O) :: .blk b5 (.cells [.slice (some ⟨ba, 0, none⟩) (k + 1) (k + 1)].toArray 110 (0, 0)) :: .blk b7 (.cells [.int .i64 (i : Int)].toArray 3 (0, 0)) :: .row (some ⟨ba, 0, none⟩) (k + 1) 67 1 RV :: Hr) := by
  have hil := (List.getElem?_eq_some_iff.1 hRVi).1
  have hpl := (List.getElem?_eq_some_iff.1 hRVp).1
  refine WC.loopH [(65, .int .i64 ((0) : Int)), (64, .int .i64 (M.length : Int)), (63, .slice am M.length cpm), (11, .int .i64 (p : Int)), (7, .pointer (some ⟨b7, 0, none⟩)), (5, .pointer (some ⟨b5, 0, none⟩))] ?_ ?_ (fun j r ds m' H' => ∃ (u : _) (O2 : List Nat), j = M.length - u ∧ r = [(65, .int .i64 (u : Int)), (64, .int .i64 (M.length : Int)), (63, .slice am M.length cpm), (11, .int .i64 (p : Int)), (7, .pointer (some ⟨b7, 0, none⟩)), (5, .pointer (some ⟨b5, 0, none⟩))] ∧ ds = [] ∧ m = m' ∧ H' = .row am cpm 93 2 (M.map prE) :: .row (some ⟨bo, 0, none⟩) n0 3 1 (nums O2) :: .blk b5 (.cells [.slice (some ⟨ba, 0, none⟩) (k + 1) (k + 1)].toArray 110 (0, 0)) :: .blk b7 (.cells [.int .i64 (i : Int)].toArray 3 (0, 0)) :: .row (some ⟨ba, 0, none⟩) (k + 1) 67 1 RV :: Hr ∧ (u ≤ M.length) ∧ (O2.length = n0) ∧ (O2 = setAll src (M.take u) O)) (M.length - (0)) ⟨0, O, rfl, rfl, rfl, rfl, rfl, by omega, hOl, by rw [List.take_zero]; unfold setAll; rfl⟩ ?_
  · (repeat (first | exact Env.Sub.nil | refine Env.Sub.cons rfl ?_))
  · exact zpk
  rintro j r ds m' H' ⟨u, O2, rfl, rfl, rfl, rfl, rfl, hu, hO2l, hO2⟩
  have hmp : (M.map prE).length = M.length := List.length_map _
  have hno := nums_length O2
  by_cases hlt2 : u < M.length
  · obtain ⟨x, hx2⟩ : ∃ x, M[u]? = some x := ⟨_, List.getElem?_eq_getElem hlt2⟩
    obtain ⟨x1, x2⟩ := x
    have hgx : (M.map prE)[u]? = some [.int .i64 (x1 : Int), .int .i64 (x2 : Int)] := by rw [List.getElem?_map, hx2]; rfl
    obtain ⟨hxa, hxb, _⟩ := hMok.mem (x1, x2) (List.mem_of_getElem? hx2)
    simp only at hxa hxb
    obtain ⟨y, hy⟩ : ∃ y, src[x1]? = some y := ⟨_, List.getElem?_eq_getElem (by omega)⟩
    have hgy := nums_get hy
    have hnk := nums_length src
    have hset2 : (nums O2).set x2 [.int .i64 (y : Int)] = nums (setAll src (M.take (u + 1)) O) := by
      rw [nums_set, List.take_succ, hx2]
      show _ = nums (setAll src (M.take u ++ [(x1, x2)]) O)
      rw [setAll_snoc, ← hO2, List.getD_eq_getElem?_getD, hy]; rfl
    unfold NumR at hsrc
    generalize nums src = NK at *
    generalize hNO : nums O2 = NO at *
    generalize hME : M.map prE = ME at *
    refine WC.rowSome (a := am) zhs (by omega) ?_
    rintro am rfl
    (refine st_D59a_1 ?_; intros; rename_i b13)
    have hrp3 := hsrc w0 (.blk b13 (.cells [.int .i64 (x1 : Int), .int .i64 (x2 : Int)].toArray 93 (0, 0)) :: .row (some am) cpm 93 2 ME :: .row (some ⟨bo, 0, none⟩) n0 3 1 NO :: .blk b5 (.cells [.slice (some ⟨ba, 0, none⟩) (k + 1) (k + 1)].toArray 110 (0, 0)) :: .blk b7 (.cells [.int .i64 (i : Int)].toArray 3 (0, 0)) :: .row (some ⟨ba, 0, none⟩) (k + 1) 67 1 RV :: Hr)
    clear hMok hO2 hx2 hy hsrc hK
    (try (refine st_D59a_1 ?_; intros))
    rw [hset2]
    subst hME
    refine WQ.next (M.length - (u + 1)) ⟨u + 1, setAll src (M.take (u + 1)) O, rfl, rfl, rfl, rfl, rfl, ?_, ?_, ?_⟩ (by omega) zsb zpk
    · omega
    · rw [setAll_length]; exact hOl
    · rfl
  · rw [List.take_of_length_le (by omega)] at hO2
    subst hO2
    (try (refine st_D59a_1 ?_; intros))
    exact WQ.weak zsb zpk hK
end Go.Proofs.Ytgckeelnhafgaaa

