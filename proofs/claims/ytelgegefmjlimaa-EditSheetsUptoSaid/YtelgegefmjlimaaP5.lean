/-
  Parts of a walk, joined: E10 ET9 ET10 ET11 ET12 ET13 ET14 ET19 E14 E27a EL E15. No condition.
-/
import Derived.Test.YtelgegefmjlimaaP4
set_option linter.all false
/-
  The walks of package edit, tenth part: what a change makes of a text; the law's example. No condition.
-/
namespace Go.Eng
open Go Go.RowKit
theorem RowR.blk {w0 : World} {m : Mem} {H : SHeap} {b sz : Nat} {T : TypeId} {fz : Nat × Nat} {es : List (List Value)} {L : List Value} (hm : Item.blk b (.cells L.toArray T fz) ∈ H) (h1 : ∀ e ∈ es, e.length = sz) (hL : es.flatten = L) : RowR w0 m H sz (.some ⟨b, 0, .none⟩) es := by
  subst hL
  intro w hs
  refine ⟨h1, fun j v hj => ?_⟩
  rw [add_none]
  exact Cell.blk hm (by simpa using hj) w hs
def bV (b : UInt8) : List Value := [.int .u8 (b.toNat : Int)]
def applyV (s : List UInt8) (l : List Stp) : Value := match sizesOf l with
  | none => .tuple #[str [], .int .i64 2]
  | some (f, _) => if f ≠ s.length then .tuple #[str [], .int .i64 5] else match applyA s (atomsOf l) with
    | none => .tuple #[str [], .int .i64 270]
    | some o => .tuple #[str o, .int .i64 0]
end Go.Eng
namespace Go.Proofs.Ytelgegefmjlimaa
open Go Go.Eng
set_option maxRecDepth 100000
set_option maxHeartbeats 4000000
set_option linter.all false
attribute [local irreducible] WL WC WQ QFun QLoop Does Q1 QRound QAssign Go.Addr.add
attribute [local irreducible] applyA sizesF sizesOf
theorem sq_E10_1 {G : Prop} (h : G := by (repeat (first | (refine sp ?_; (repeat intro zzc)) | (refine iF 40 rfl ?_; refine w_callG Try.func40 ?_ (hs := sizes_any (by assumption) _ _ _ (by assumption))))); exact WQ.q1 rfl) : G := h
theorem st_E10_1 {G G' : Prop} (next : G') (h : Bx G' → G := by intro zzn; (first | ((refine st ?_; (repeat intro zzc)); (try ((first | (refine iF 40 rfl ?_; refine w_callG Try.func40 ?_ (hs := sizes_any (by assumption) _ _ _ (by assumption))) | ((refine iDraw ?_; (first | refine WC.drawAll rfl (by decide +kernel) ?_ | refine WC.draw 1 rfl (by decide +kernel) ?_ | refine WC.draw 2 rfl (by decide +kernel) ?_ | refine WC.draw 3 rfl (by decide +kernel) ?_ | refine WC.draw 4 rfl (by decide +kernel) ?_ | refine WC.draw 5 rfl (by decide +kernel) ?_ | refine WC.draw 6 rfl (by decide +kernel) ?_ | refine WC.draw 7 rfl (by decide +kernel) ?_ | refine WC.draw 8 rfl (by decide +kernel) ?_ | refine WC.draw 9 rfl (by decide +kernel) ?_ | refine WC.draw 10 rfl (by decide +kernel) ?_ | refine WC.draw 11 rfl (by decide +kernel) ?_ | refine WC.draw 12 rfl (by decide +kernel) ?_ | refine WC.draw 13 rfl (by decide +kernel) ?_ | refine WC.draw 14 rfl (by decide +kernel) ?_ | refine WC.draw 15 rfl (by decide +kernel) ?_ | refine WC.draw 16 rfl (by decide +kernel) ?_ | refine WC.draw 17 rfl (by decide +kernel) ?_ | refine WC.draw 18 rfl (by decide +kernel) ?_ | refine WC.draw 19 rfl (by decide +kernel) ?_ | refine WC.draw 20 rfl (by decide +kernel) ?_ | refine WC.draw 21 rfl (by decide +kernel) ?_ | refine WC.draw 22 rfl (by decide +kernel) ?_ | refine WC.draw 23 rfl (by decide +kernel) ?_ | refine WC.draw 24 rfl (by decide +kernel) ?_)); (repeat (refine WD.cons rfl (fun c h => by cases h) sq_E10_1 ?_)); refine WD.nil ?_)); (try (refine st ?_; (repeat intro zzc)))))) | ((first | (refine iF 40 rfl ?_; refine w_callG Try.func40 ?_ (hs := sizes_any (by assumption) _ _ _ (by assumption))) | ((refine iDraw ?_; (first | refine WC.drawAll rfl (by decide +kernel) ?_ | refine WC.draw 1 rfl (by decide +kernel) ?_ | refine WC.draw 2 rfl (by decide +kernel) ?_ | refine WC.draw 3 rfl (by decide +kernel) ?_ | refine WC.draw 4 rfl (by decide +kernel) ?_ | refine WC.draw 5 rfl (by decide +kernel) ?_ | refine WC.draw 6 rfl (by decide +kernel) ?_ | refine WC.draw 7 rfl (by decide +kernel) ?_ | refine WC.draw 8 rfl (by decide +kernel) ?_ | refine WC.draw 9 rfl (by decide +kernel) ?_ | refine WC.draw 10 rfl (by decide +kernel) ?_ | refine WC.draw 11 rfl (by decide +kernel) ?_ | refine WC.draw 12 rfl (by decide +kernel) ?_ | refine WC.draw 13 rfl (by decide +kernel) ?_ | refine WC.draw 14 rfl (by decide +kernel) ?_ | refine WC.draw 15 rfl (by decide +kernel) ?_ | refine WC.draw 16 rfl (by decide +kernel) ?_ | refine WC.draw 17 rfl (by decide +kernel) ?_ | refine WC.draw 18 rfl (by decide +kernel) ?_ | refine WC.draw 19 rfl (by decide +kernel) ?_ | refine WC.draw 20 rfl (by decide +kernel) ?_ | refine WC.draw 21 rfl (by decide +kernel) ?_ | refine WC.draw 22 rfl (by decide +kernel) ?_ | refine WC.draw 23 rfl (by decide +kernel) ?_ | refine WC.draw 24 rfl (by decide +kernel) ?_)); (repeat (refine WD.cons rfl (fun c h => by cases h) sq_E10_1 ?_)); refine WD.nil ?_)); (try (refine st ?_; (repeat intro zzc))))); (repeat ((first | (refine iF 40 rfl ?_; refine w_callG Try.func40 ?_ (hs := sizes_any (by assumption) _ _ _ (by assumption))) | ((refine iDraw ?_; (first | refine WC.drawAll rfl (by decide +kernel) ?_ | refine WC.draw 1 rfl (by decide +kernel) ?_ | refine WC.draw 2 rfl (by decide +kernel) ?_ | refine WC.draw 3 rfl (by decide +kernel) ?_ | refine WC.draw 4 rfl (by decide +kernel) ?_ | refine WC.draw 5 rfl (by decide +kernel) ?_ | refine WC.draw 6 rfl (by decide +kernel) ?_ | refine WC.draw 7 rfl (by decide +kernel) ?_ | refine WC.draw 8 rfl (by decide +kernel) ?_ | refine WC.draw 9 rfl (by decide +kernel) ?_ | refine WC.draw 10 rfl (by decide +kernel) ?_ | refine WC.draw 11 rfl (by decide +kernel) ?_ | refine WC.draw 12 rfl (by decide +kernel) ?_ | refine WC.draw 13 rfl (by decide +kernel) ?_ | refine WC.draw 14 rfl (by decide +kernel) ?_ | refine WC.draw 15 rfl (by decide +kernel) ?_ | refine WC.draw 16 rfl (by decide +kernel) ?_ | refine WC.draw 17 rfl (by decide +kernel) ?_ | refine WC.draw 18 rfl (by decide +kernel) ?_ | refine WC.draw 19 rfl (by decide +kernel) ?_ | refine WC.draw 20 rfl (by decide +kernel) ?_ | refine WC.draw 21 rfl (by decide +kernel) ?_ | refine WC.draw 22 rfl (by decide +kernel) ?_ | refine WC.draw 23 rfl (by decide +kernel) ?_ | refine WC.draw 24 rfl (by decide +kernel) ?_)); (repeat (refine WD.cons rfl (fun c h => by cases h) sq_E10_1 ?_)); refine WD.nil ?_)); (try (refine st ?_; (repeat intro zzc))))); (repeat revert zzc); exact zzn.out) : G := h ⟨next⟩
theorem apply_any {a : Option Addr} {cap : Nat} {l : List Stp} {s : List UInt8} (hf : Fit l) (hsl : s.length ≤ 1000000000) (w0 : World) (m : Mem) (H : SHeap) (hr : RowR w0 m H 3 a (l.map Stp.cs)) :
    Does Try.prog 22 #[str s, .slice a l.length cap] w0 m H (Gives (applyV s l) m H) := by
  refine Does.of_body (args := [str s, .slice a l.length cap]) Try.func22 rfl Try.ntmps22 rfl ?_
  have hln : (l.map Stp.cs).length = l.length := by simp
  have hlen := hf.len
  cases hs : sizesOf l with
  | none =>
    have e : applyV s l = .tuple #[str [], .int .i64 2] := by simp only [applyV, hs]
    have e2 : szP (sizesOf l) = .tuple #[.int .i64 0, .int .i64 0, .int .i64 2] := by rw [hs]; rfl
    rw [e]
    (try (refine st_E10_1 ?_; intros))
    rw [e2]
    (try (refine st_E10_1 ?_; intros))
    exact q_fin0 (H0 := H) (Gives.mk rfl) (hd := zpk)
  | some ft =>
    obtain ⟨f, t⟩ := ft
    have e2 : szP (sizesOf l) = .tuple #[.int .i64 f, .int .i64 t, .int .i64 0] := by rw [hs]; rfl
    obtain ⟨hok, hal, hpl, hfr, _, g1, g2, _, _⟩ := sized hs
    by_cases hfs : f = s.length
    · (try (refine st_E10_1 ?_; intros))
      rw [e2]
      (try (refine st_E10_1 ?_; intros))
      refine WC.newRow (T := 5) (sz := 1) ?_
      refine WC.loopH [(29, .int .i64 ((0) : Int)), (28, .int .i64 (l.length : Int)), (27, .slice a l.length cap), (0, str (s)), (9, .slice (none) (0) (0))] ?_ ?_ (fun j r ds m' H' => ∃ i S a9 c9 n9 O, j = l.length - i ∧ r = [(29, .int .i64 (i : Int)), (28, .int .i64 (l.length : Int)), (27, .slice a l.length cap), (0, str S), (9, .slice a9 n9 c9)] ∧ ds = [] ∧ m = m' ∧ H' = .row a9 c9 5 1 (O.map bV) :: H ∧ (i ≤ l.length) ∧ (n9 = O.length) ∧ (O.length ≤ (atomsOf (l.take i)).length + s.length - S.length) ∧ (S.length ≤ s.length) ∧ (fromA (atomsOf (l.drop i)) = S.length) ∧ ((applyA S (atomsOf (l.drop i))).map (O ++ ·) = applyA s (atomsOf l))) (l.length - (0)) ⟨0, s, none, 0, 0, ([] : List UInt8), rfl, rfl, rfl, rfl, rfl, by omega, rfl, by simp, by omega, by rw [List.drop_zero]; omega, by simp⟩ ?_
      · (repeat (first | exact Env.Sub.nil | refine Env.Sub.cons rfl ?_))
      · exact zpk
      rintro j r ds m' H' ⟨i, S, a9, c9, n9, O, rfl, rfl, rfl, rfl, rfl, hi, hn9, hO, hSl, hSf, hR⟩
      have hOl : (O.map bV).length = O.length := by simp
      have htl : (atomsOf (l.take i)).length ≤ (atomsOf l).length := by
        have e : atomsOf l = atomsOf (l.take i) ++ atomsOf (l.drop i) := by rw [← atoms_append, List.take_append_drop]
        rw [e]; simp
      subst hn9
      by_cases hlt : i < l.length
      · obtain ⟨x, hx, hget, htk, hmem, hdr⟩ := at_idx (f := Stp.cs) hlt
        have hxl : (atomsOf (l.take (i + 1))).length = (atomsOf (l.take i)).length + x.atoms.length := by rw [htk, atoms_append, atoms_one, List.length_append]
        have hxm : (atomsOf (l.take (i + 1))).length ≤ (atomsOf l).length := by
          have e : atomsOf l = atomsOf (l.take (i + 1)) ++ atomsOf (l.drop (i + 1)) := by rw [← atoms_append, List.take_append_drop]
          rw [e, List.length_append]; omega
        rw [atoms_len] at hxl
        rw [hdr, atoms_cons] at hR hSf
        rw [fromA_append, from_step] at hSf
        have hr1 := hr.more (i := .row a9 c9 5 1 (O.map bV))
        have hxok := hok x hmem
        refine WC.rSome hr1 (by omega) ?_
        rintro a0 rfl
        rcases hxok with ⟨h1, h2, h3⟩ | ⟨h1, h2, h3⟩ | ⟨h1, h2, h3⟩
        · have h2' : x.d.length = 0 := by rw [h2]; rfl
          have h3' : x.p.length = 0 := by rw [h3]; rfl
          have ea : x.atoms = List.replicate x.k.toNat .k := by simp [Stp.atoms, h2, h3]
          rw [ea, applyA_ks x.k.toNat S _ (by omega), Option.map_map] at hR
          have hmin : (S.take x.k.toNat).length = x.k.toNat := by simp; omega
          have hed : (S.drop x.k.toNat).length = S.length - x.k.toNat := by simp
          (refine st_E10_1 ?_; intros; rename_i bx a8 c8)
          rw [hOl, hmin]
          have em : O.map bV ++ (S.take x.k.toNat).map (fun b => [Value.int .u8 (b.toNat : Int)]) = (O ++ S.take x.k.toNat).map bV := by rw [List.map_append]; rfl
          rw [em]
          refine WQ.next (l.length - (i + 1)) ⟨i + 1, S.drop x.k.toNat, a8, c8, O.length + x.k.toNat, O ++ S.take x.k.toNat, rfl, rfl, rfl, rfl, rfl, ?_, ?_, ?_, ?_, ?_, ?_⟩ (by omega) zsb zpk
          · omega
          · rw [List.length_append, hmin]
          · rw [List.length_append, hmin]; omega
          · omega
          · omega
          · rw [← hR]; congr 1; funext q; simp
        · have h3' : x.p.length = 0 := by rw [h3]; rfl
          have ea : x.atoms = x.d.map .d := by simp [Stp.atoms, h1, h3]
          rw [ea, applyA_ds x.d S _ (by omega)] at hR
          have hed : (S.drop x.d.length).length = S.length - x.d.length := by simp
          by_cases h4 : S.take x.d.length = x.d
          · rw [if_pos h4] at hR
            (try (refine st_E10_1 ?_; intros))
            refine WQ.next (l.length - (i + 1)) ⟨i + 1, S.drop x.d.length, a9, c9, O.length, O, rfl, rfl, rfl, rfl, rfl, ?_, ?_, ?_, ?_, ?_, ?_⟩ (by omega) zsb zpk
            · omega
            · rfl
            · omega
            · omega
            · omega
            · exact hR
          · rw [if_neg h4] at hR
            have e : applyV s l = .tuple #[str [], .int .i64 270] := by simp only [applyV, hs, hfs, ne_eq, not_true, if_false, ← hR, Option.map_none]
            rw [e]
            (try (refine st_E10_1 ?_; intros))
            exact q_fin0 (H0 := H) (Gives.mk rfl) (hd := zpk)
        · have h2' : x.d.length = 0 := by rw [h2]; rfl
          have ea : x.atoms = x.p.map .p := by simp [Stp.atoms, h1, h2]
          rw [ea, applyA_ps S x.p, Option.map_map] at hR
          (refine st_E10_1 ?_; intros; rename_i bx a8 c8)
          rw [hOl]
          have em : O.map bV ++ x.p.map (fun b => [Value.int .u8 (b.toNat : Int)]) = (O ++ x.p).map bV := by rw [List.map_append]; rfl
          rw [em]
          refine WQ.next (l.length - (i + 1)) ⟨i + 1, S, a8, c8, O.length + x.p.length, O ++ x.p, rfl, rfl, rfl, rfl, rfl, ?_, ?_, ?_, ?_, ?_, ?_⟩ (by omega) zsb zpk
          · omega
          · rw [List.length_append]
          · rw [List.length_append]; omega
          · omega
          · omega
          · rw [← hR]; congr 1; funext q; simp
      · obtain rfl : i = l.length := by omega
        rw [List.drop_length] at hR
        have e : applyV s l = .tuple #[str O, .int .i64 0] := by
          have : some O = applyA s (atomsOf l) := by rw [← hR, show atomsOf [] = [] from rfl, applyA_nil]; simp
          simp only [applyV, hs, hfs, ne_eq, not_true, if_false, ← this]
        rw [e]
        (try (refine st_E10_1 ?_; intros))
        refine WL.rowStr (s := O) rfl rfl zhs rfl rfl rfl rfl rfl ?_
        (try (refine st_E10_1 ?_; intros))
        exact q_fin0 (H0 := H) (Gives.mk rfl) (hd := zpk)
    · have e : applyV s l = .tuple #[str [], .int .i64 5] := by simp [applyV, hs, hfs]
      rw [e]
      (try (refine st_E10_1 ?_; intros))
      rw [e2]
      (try (refine st_E10_1 ?_; intros))
      exact q_fin0 (H0 := H) (Gives.mk rfl) (hd := zpk)
theorem sq_E10_2 {G : Prop} (h : G := by (repeat (first | (refine sp ?_; (repeat intro zzc)))); exact WQ.q1 rfl) : G := h
theorem st_E10_2 {G G' : Prop} (next : G') (h : Bx G' → G := by intro zzn; (first | ((refine st ?_; (repeat intro zzc)); (try ((first | ((refine iDraw ?_; (first | refine WC.drawAll rfl (by decide +kernel) ?_ | refine WC.draw 1 rfl (by decide +kernel) ?_ | refine WC.draw 2 rfl (by decide +kernel) ?_ | refine WC.draw 3 rfl (by decide +kernel) ?_ | refine WC.draw 4 rfl (by decide +kernel) ?_ | refine WC.draw 5 rfl (by decide +kernel) ?_ | refine WC.draw 6 rfl (by decide +kernel) ?_ | refine WC.draw 7 rfl (by decide +kernel) ?_ | refine WC.draw 8 rfl (by decide +kernel) ?_ | refine WC.draw 9 rfl (by decide +kernel) ?_ | refine WC.draw 10 rfl (by decide +kernel) ?_ | refine WC.draw 11 rfl (by decide +kernel) ?_ | refine WC.draw 12 rfl (by decide +kernel) ?_ | refine WC.draw 13 rfl (by decide +kernel) ?_ | refine WC.draw 14 rfl (by decide +kernel) ?_ | refine WC.draw 15 rfl (by decide +kernel) ?_ | refine WC.draw 16 rfl (by decide +kernel) ?_ | refine WC.draw 17 rfl (by decide +kernel) ?_ | refine WC.draw 18 rfl (by decide +kernel) ?_ | refine WC.draw 19 rfl (by decide +kernel) ?_ | refine WC.draw 20 rfl (by decide +kernel) ?_ | refine WC.draw 21 rfl (by decide +kernel) ?_ | refine WC.draw 22 rfl (by decide +kernel) ?_ | refine WC.draw 23 rfl (by decide +kernel) ?_ | refine WC.draw 24 rfl (by decide +kernel) ?_)); (repeat (refine WD.cons rfl (fun c h => by cases h) sq_E10_2 ?_)); refine WD.nil ?_)); (try (refine st ?_; (repeat intro zzc)))))) | ((first | ((refine iDraw ?_; (first | refine WC.drawAll rfl (by decide +kernel) ?_ | refine WC.draw 1 rfl (by decide +kernel) ?_ | refine WC.draw 2 rfl (by decide +kernel) ?_ | refine WC.draw 3 rfl (by decide +kernel) ?_ | refine WC.draw 4 rfl (by decide +kernel) ?_ | refine WC.draw 5 rfl (by decide +kernel) ?_ | refine WC.draw 6 rfl (by decide +kernel) ?_ | refine WC.draw 7 rfl (by decide +kernel) ?_ | refine WC.draw 8 rfl (by decide +kernel) ?_ | refine WC.draw 9 rfl (by decide +kernel) ?_ | refine WC.draw 10 rfl (by decide +kernel) ?_ | refine WC.draw 11 rfl (by decide +kernel) ?_ | refine WC.draw 12 rfl (by decide +kernel) ?_ | refine WC.draw 13 rfl (by decide +kernel) ?_ | refine WC.draw 14 rfl (by decide +kernel) ?_ | refine WC.draw 15 rfl (by decide +kernel) ?_ | refine WC.draw 16 rfl (by decide +kernel) ?_ | refine WC.draw 17 rfl (by decide +kernel) ?_ | refine WC.draw 18 rfl (by decide +kernel) ?_ | refine WC.draw 19 rfl (by decide +kernel) ?_ | refine WC.draw 20 rfl (by decide +kernel) ?_ | refine WC.draw 21 rfl (by decide +kernel) ?_ | refine WC.draw 22 rfl (by decide +kernel) ?_ | refine WC.draw 23 rfl (by decide +kernel) ?_ | refine WC.draw 24 rfl (by decide +kernel) ?_)); (repeat (refine WD.cons rfl (fun c h => by cases h) sq_E10_2 ?_)); refine WD.nil ?_)); (try (refine st ?_; (repeat intro zzc))))); (repeat ((first | ((refine iDraw ?_; (first | refine WC.drawAll rfl (by decide +kernel) ?_ | refine WC.draw 1 rfl (by decide +kernel) ?_ | refine WC.draw 2 rfl (by decide +kernel) ?_ | refine WC.draw 3 rfl (by decide +kernel) ?_ | refine WC.draw 4 rfl (by decide +kernel) ?_ | refine WC.draw 5 rfl (by decide +kernel) ?_ | refine WC.draw 6 rfl (by decide +kernel) ?_ | refine WC.draw 7 rfl (by decide +kernel) ?_ | refine WC.draw 8 rfl (by decide +kernel) ?_ | refine WC.draw 9 rfl (by decide +kernel) ?_ | refine WC.draw 10 rfl (by decide +kernel) ?_ | refine WC.draw 11 rfl (by decide +kernel) ?_ | refine WC.draw 12 rfl (by decide +kernel) ?_ | refine WC.draw 13 rfl (by decide +kernel) ?_ | refine WC.draw 14 rfl (by decide +kernel) ?_ | refine WC.draw 15 rfl (by decide +kernel) ?_ | refine WC.draw 16 rfl (by decide +kernel) ?_ | refine WC.draw 17 rfl (by decide +kernel) ?_ | refine WC.draw 18 rfl (by decide +kernel) ?_ | refine WC.draw 19 rfl (by decide +kernel) ?_ | refine WC.draw 20 rfl (by decide +kernel) ?_ | refine WC.draw 21 rfl (by decide +kernel) ?_ | refine WC.draw 22 rfl (by decide +kernel) ?_ | refine WC.draw 23 rfl (by decide +kernel) ?_ | refine WC.draw 24 rfl (by decide +kernel) ?_)); (repeat (refine WD.cons rfl (fun c h => by cases h) sq_E10_2 ?_)); refine WD.nil ?_)); (try (refine st ?_; (repeat intro zzc))))); (repeat revert zzc); exact zzn.out) : G := h ⟨next⟩
theorem live_val : applyV [97, 98] [⟨1, [], []⟩, ⟨0, [98], []⟩, ⟨0, [], [99]⟩] = .tuple #[str [97, 99], .int .i64 0] := by
  have h1 : sizesOf [⟨1, [], []⟩, ⟨0, [98], []⟩, ⟨0, [], [99]⟩] = some (2, 2) := by decide +kernel
  have h2 : applyA [97, 98] (atomsOf [⟨1, [], []⟩, ⟨0, [98], []⟩, ⟨0, [], [99]⟩]) = some [97, 99] := by decide +kernel
  simp only [applyV, h1, h2]
  rfl
theorem live_any (w0 : World) (m : Mem) (H : SHeap) : Does Try.prog 12 #[] w0 m H (Gives (.bool true) m H) := by
  refine Does.of_body (args := []) Try.func12 rfl Try.ntmps12 rfl ?_
  (refine st_E10_2 ?_; intros; rename_i b)
  refine w_callF Try.func22 ?_ (hs := apply_any (s := [97, 98]) (l := [⟨1, [], []⟩, ⟨0, [98], []⟩, ⟨0, [], [99]⟩]) ⟨by decide, by decide, by decide, by decide⟩ (by decide) _ _ _ (RowR.blk zhs (by decide) rfl))
  rintro v m1 H1 ⟨rfl, rfl, rfl⟩
  rw [live_val]
  (try (refine st_E10_2 ?_; intros))
  (refine q_fin0 ?_)
  exact Gives.mk (by rw [dcd_true rfl])
end Go.Proofs.Ytelgegefmjlimaa

/-
  Plain facts on changes: parts of a step. No condition.
-/
namespace Go.Eng
open Go
def takeS (s : Stp) (n : Nat) : Stp := if 0 < s.k then ⟨n, [], []⟩ else if s.d ≠ [] then ⟨0, s.d.take n, []⟩ else ⟨0, [], s.p.take n⟩
def dropS (s : Stp) (n : Nat) : Stp := if 0 < s.k then ⟨s.k - n, [], []⟩ else if s.d ≠ [] then ⟨0, s.d.drop n, []⟩ else ⟨0, [], s.p.drop n⟩
def restS (s : Stp) (n : Nat) (X : List Stp) : List Stp := if n = s.atoms.length then X else dropS s n :: X
/-- the three kinds of a step -/
theorem step_kinds {s : Stp} (h : stpOk s) : (0 < s.k ∧ s.d = [] ∧ s.p = [] ∧ s.atoms = List.replicate s.k.toNat .k) ∨ (s.k = 0 ∧ s.d ≠ [] ∧ s.p = [] ∧ s.atoms = s.d.map .d) ∨ (s.k = 0 ∧ s.d = [] ∧ s.p ≠ [] ∧ s.atoms = s.p.map .p) := by
  rcases h with ⟨h1, h2, h3⟩ | ⟨h1, h2, h3⟩ | ⟨h1, h2, h3⟩
  · exact .inl ⟨h1, h2, h3, by simp [Stp.atoms, h2, h3]⟩
  · exact .inr (.inl ⟨h1, h2, h3, by simp [Stp.atoms, h1, h3]⟩)
  · exact .inr (.inr ⟨h1, h2, h3, by simp [Stp.atoms, h1, h2]⟩)
theorem atoms_pos {s : Stp} (h : stpOk s) : 0 < s.atoms.length := by
  rcases step_kinds h with ⟨h1, h2, h3, e⟩ | ⟨h1, h2, h3, e⟩ | ⟨h1, h2, h3, e⟩ <;> rw [e]
  · simp; omega
  · simpa [List.length_pos_iff] using h2
  · simpa [List.length_pos_iff] using h3
theorem takeS_ok {s : Stp} {n : Nat} (h : stpOk s) (h0 : 0 < n) (hn : n ≤ s.atoms.length) : stpOk (takeS s n) ∧ (takeS s n).atoms = s.atoms.take n := by
  rcases step_kinds h with ⟨h1, h2, h3, e⟩ | ⟨h1, h2, h3, e⟩ | ⟨h1, h2, h3, e⟩ <;> rw [e] at hn ⊢
  · have et : takeS s n = ⟨n, [], []⟩ := by simp [takeS, h1]
    rw [et]
    refine ⟨.inl ⟨by simp only; omega, rfl, rfl⟩, ?_⟩
    simp only [List.length_replicate] at hn
    simp [Stp.atoms, List.take_replicate, Nat.min_eq_left hn]
  · have et : takeS s n = ⟨0, s.d.take n, []⟩ := by simp [takeS, h1, h2]
    rw [et]
    refine ⟨.inr (.inl ⟨rfl, ?_, rfl⟩), ?_⟩
    · intro hc
      have : (s.d.take n).length = 0 := by rw [show s.d.take n = [] from hc]; rfl
      simp only [List.length_take, List.length_map] at this hn; omega
    · simp [Stp.atoms, List.map_take]
  · have et : takeS s n = ⟨0, [], s.p.take n⟩ := by simp [takeS, h1, h2]
    rw [et]
    refine ⟨.inr (.inr ⟨rfl, rfl, ?_⟩), ?_⟩
    · intro hc
      have : (s.p.take n).length = 0 := by rw [show s.p.take n = [] from hc]; rfl
      simp only [List.length_take, List.length_map] at this hn; omega
    · simp [Stp.atoms, List.map_take]
theorem takeS_all {s : Stp} (h : stpOk s) : takeS s s.atoms.length = s := by
  obtain ⟨k, d, p⟩ := s
  rcases step_kinds h with ⟨h1, h2, h3, e⟩ | ⟨h1, h2, h3, e⟩ | ⟨h1, h2, h3, e⟩ <;> rw [e] <;> simp only at h1 h2 h3
  · subst h2; subst h3
    simp only [takeS, h1, if_true, List.length_replicate]
    congr 1; omega
  · subst h1; subst h3
    simp [takeS, h2]
  · subst h1; subst h2
    simp [takeS]
theorem dropS_ok {s : Stp} {n : Nat} (h : stpOk s) (hn : n < s.atoms.length) : stpOk (dropS s n) ∧ (dropS s n).atoms = s.atoms.drop n := by
  rcases step_kinds h with ⟨h1, h2, h3, e⟩ | ⟨h1, h2, h3, e⟩ | ⟨h1, h2, h3, e⟩ <;> rw [e] at hn ⊢
  · have et : dropS s n = ⟨s.k - n, [], []⟩ := by simp [dropS, h1]
    rw [et]
    simp only [List.length_replicate] at hn
    refine ⟨.inl ⟨by simp only; omega, rfl, rfl⟩, ?_⟩
    simp only [Stp.atoms, List.map_nil, List.append_nil, List.drop_replicate]
    congr 1; omega
  · have et : dropS s n = ⟨0, s.d.drop n, []⟩ := by simp [dropS, h1, h2]
    rw [et]
    refine ⟨.inr (.inl ⟨rfl, ?_, rfl⟩), ?_⟩
    · intro hc
      have : (s.d.drop n).length = 0 := by rw [show s.d.drop n = [] from hc]; rfl
      simp only [List.length_drop, List.length_map] at this hn; omega
    · simp [Stp.atoms, List.map_drop]
  · have et : dropS s n = ⟨0, [], s.p.drop n⟩ := by simp [dropS, h1, h2]
    rw [et]
    refine ⟨.inr (.inr ⟨rfl, rfl, ?_⟩), ?_⟩
    · intro hc
      have : (s.p.drop n).length = 0 := by rw [show s.p.drop n = [] from hc]; rfl
      simp only [List.length_drop, List.length_map] at this hn; omega
    · simp [Stp.atoms, List.map_drop]
theorem restS_ok {s : Stp} {n : Nat} {X : List Stp} (h : ∀ x ∈ s :: X, stpOk x) (hn : n ≤ s.atoms.length) : (∀ x ∈ restS s n X, stpOk x) ∧ atomsOf (restS s n X) = s.atoms.drop n ++ atomsOf X := by
  unfold restS
  by_cases e : n = s.atoms.length
  · rw [if_pos e]
    exact ⟨fun x hx => h x (List.mem_cons_of_mem _ hx), by rw [e, List.drop_length]; rfl⟩
  · rw [if_neg e]
    obtain ⟨h1, h2⟩ := dropS_ok (h s List.mem_cons_self) (show n < s.atoms.length by omega)
    refine ⟨fun x hx => ?_, by rw [atoms_cons, h2]⟩
    rcases List.mem_cons.1 hx with rfl | hx
    · exact h1
    · exact h x (List.mem_cons_of_mem _ hx)
/-- a step's parts come one behind the other -/
theorem parts_S {s : Stp} {n : Nat} {X : List Stp} (h : ∀ x ∈ s :: X, stpOk x) (h0 : 0 < n) (hn : n ≤ s.atoms.length) : atomsOf (s :: X) = (takeS s n).atoms ++ atomsOf (restS s n X) := by
  rw [(restS_ok h hn).2, (takeS_ok (h s List.mem_cons_self) h0 hn).2, ← List.append_assoc, List.take_append_drop]; rfl
theorem takeS_kind {s : Stp} {n : Nat} (h : stpOk s) (h0 : 0 < n) (hn : n ≤ s.atoms.length) : (0 < (takeS s n).k ↔ 0 < s.k) ∧ ((takeS s n).d = [] ↔ s.d = []) ∧ ((takeS s n).p = [] ↔ s.p = []) ∧ (takeS s n).atoms.length = n := by
  obtain ⟨h1, h2⟩ := takeS_ok h h0 hn
  have h3 : (takeS s n).atoms.length = n := by rw [h2, List.length_take]; omega
  rw [h3]
  have h4 := h2
  rcases step_kinds h with ⟨g1, g2, g3, e⟩ | ⟨g1, g2, g3, e⟩ | ⟨g1, g2, g3, e⟩ <;> rcases step_kinds h1 with ⟨f1, f2, f3, e'⟩ | ⟨f1, f2, f3, e'⟩ | ⟨f1, f2, f3, e'⟩
  · exact ⟨⟨fun _ => g1, fun _ => f1⟩, ⟨fun _ => g2, fun _ => f2⟩, ⟨fun _ => g3, fun _ => f3⟩, rfl⟩
  · exfalso
    have et : takeS s n = ⟨n, [], []⟩ := by simp [takeS, g1]
    rw [et] at f2; exact f2 rfl
  · exfalso
    have et : takeS s n = ⟨n, [], []⟩ := by simp [takeS, g1]
    rw [et] at f3; exact f3 rfl
  · exfalso
    have et : takeS s n = ⟨0, s.d.take n, []⟩ := by simp [takeS, g1, g2]
    rw [et] at f1; simp at f1
  · exact ⟨⟨fun h => by omega, fun h => by omega⟩, ⟨fun h => absurd h f2, fun h => absurd h g2⟩, ⟨fun _ => g3, fun _ => f3⟩, rfl⟩
  · exfalso
    have et : takeS s n = ⟨0, s.d.take n, []⟩ := by simp [takeS, g1, g2]
    rw [et] at f3; exact f3 rfl
  · exfalso
    have et : takeS s n = ⟨0, [], s.p.take n⟩ := by simp [takeS, g1, g2]
    rw [et] at f1; simp at f1
  · exfalso
    have et : takeS s n = ⟨0, [], s.p.take n⟩ := by simp [takeS, g1, g2]
    rw [et] at f2; exact f2 rfl
  · exact ⟨⟨fun h => by omega, fun h => by omega⟩, ⟨fun _ => g2, fun _ => f2⟩, ⟨fun h => absurd h f3, fun h => absurd h g3⟩, rfl⟩
end Go.Eng

/-
  Plain facts on changes: composing them by parts of steps. No condition.
-/
namespace Go.Eng
open Go
theorem notPut_atoms {Y : List Stp} (h : ∀ y ∈ Y, stpOk y) (hp : ∀ t Y', Y = t :: Y' → t.p = []) : notPut (atomsOf Y) = true := by
  cases Y with
  | nil => rfl
  | cons t Y' =>
    have ht := hp t Y' rfl
    rw [atoms_cons]
    rcases step_kinds (h t List.mem_cons_self) with ⟨h1, h2, h3, e⟩ | ⟨h1, h2, h3, e⟩ | ⟨h1, h2, h3, e⟩
    · rw [e]
      obtain ⟨n, hn⟩ : ∃ n, t.k.toNat = n + 1 := ⟨t.k.toNat - 1, by omega⟩
      rw [hn, List.replicate_succ]; rfl
    · rw [e]
      cases hd : t.d with
      | nil => exact absurd hd h2
      | cons b d => rfl
    · exact absurd ht h3
theorem comp_put {X Y : List Stp} {t : Stp} (ht : stpOk t) (hp : t.p ≠ []) : compA (atomsOf X) (atomsOf (t :: Y)) = (compA (atomsOf X) (atomsOf Y)).map (t.atoms ++ ·) := by
  rcases step_kinds ht with ⟨h1, h2, h3, e⟩ | ⟨h1, h2, h3, e⟩ | ⟨h1, h2, h3, e⟩
  · exact absurd h3 hp
  · exact absurd h3 hp
  · rw [atoms_cons, e, compA_ps]
theorem comp_drop {X Y : List Stp} {s : Stp} (hs : stpOk s) (hd : s.d ≠ []) (hY : ∀ y ∈ Y, stpOk y) (hp : ∀ t Y', Y = t :: Y' → t.p = []) : compA (atomsOf (s :: X)) (atomsOf Y) = (compA (atomsOf X) (atomsOf Y)).map (s.atoms ++ ·) := by
  rcases step_kinds hs with ⟨h1, h2, h3, e⟩ | ⟨h1, h2, h3, e⟩ | ⟨h1, h2, h3, e⟩
  · exact absurd h2 hd
  · rw [atoms_cons, e, compA_ds _ _ _ (notPut_atoms hY hp)]
  · exact absurd h2 hd
theorem comp_nilY {X : List Stp} (hX : ∀ x ∈ X, stpOk x) (hd : ∀ s X', X = s :: X' → s.d = []) : compA (atomsOf X) (atomsOf []) = some [] := by
  cases X with
  | nil => rw [show atomsOf [] = [] from rfl, compA]
  | cons s X' =>
    have h := hd s X' rfl
    rw [atoms_cons, show atomsOf [] = [] from rfl]
    rcases step_kinds (hX s List.mem_cons_self) with ⟨h1, h2, h3, e⟩ | ⟨h1, h2, h3, e⟩ | ⟨h1, h2, h3, e⟩
    · rw [e]
      obtain ⟨n, hn⟩ : ∃ n, s.k.toNat = n + 1 := ⟨s.k.toNat - 1, by omega⟩
      rw [hn, List.replicate_succ, List.cons_append, compA]
    · exact absurd h h2
    · rw [e]
      cases hp : s.p with
      | nil => exact absurd hp h3
      | cons b p => rw [List.map_cons, List.cons_append, compA]
theorem comp_nilX {Y : List Stp} (hY : ∀ y ∈ Y, stpOk y) (hp : ∀ t Y', Y = t :: Y' → t.p = []) : compA (atomsOf []) (atomsOf Y) = some [] := compA_nil _ (notPut_atoms hY hp)
/-- one round: so many bytes of both -/
theorem comp_both {X Y : List Stp} {s t : Stp} {n : Nat} (hX : ∀ x ∈ s :: X, stpOk x) (hY : ∀ y ∈ t :: Y, stpOk y) (hd : s.d = []) (hp : t.p = []) (h0 : 0 < n) (hs : n ≤ s.atoms.length) (ht : n ≤ t.atoms.length) :
    compA (atomsOf (s :: X)) (atomsOf (t :: Y)) = if 0 < (takeS s n).k then (compA (atomsOf (restS s n X)) (atomsOf (restS t n Y))).map ((takeS t n).atoms ++ ·)
      else if 0 < (takeS t n).k then (compA (atomsOf (restS s n X)) (atomsOf (restS t n Y))).map ((takeS s n).atoms ++ ·)
      else if (takeS s n).p = (takeS t n).d then compA (atomsOf (restS s n X)) (atomsOf (restS t n Y)) else none := by
  have a1 := takeS_kind (hX s List.mem_cons_self) h0 hs
  have a2 := takeS_kind (hY t List.mem_cons_self) h0 ht
  have o1 := (takeS_ok (hX s List.mem_cons_self) h0 hs).1
  have o2 := (takeS_ok (hY t List.mem_cons_self) h0 ht).1
  rw [parts_S hX h0 hs, parts_S hY h0 ht]
  generalize takeS s n = s1 at *
  generalize takeS t n = t1 at *
  have d1 : s1.d = [] := a1.2.1.2 hd
  have p2 : t1.p = [] := a2.2.2.1.2 hp
  have l1 := a1.2.2.2
  have l2 := a2.2.2.2
  rcases step_kinds o1 with ⟨h1, h2, h3, e⟩ | ⟨h1, h2, h3, e⟩ | ⟨h1, h2, h3, e⟩
  · rw [if_pos h1, e]
    have el : s1.k.toNat = n := by rw [e] at l1; simpa using l1
    rcases step_kinds o2 with ⟨g1, g2, g3, f⟩ | ⟨g1, g2, g3, f⟩ | ⟨g1, g2, g3, f⟩
    · have el2 : t1.k.toNat = n := by rw [f] at l2; simpa using l2
      rw [f, el, el2, compA_kk]
    · have el2 : t1.d.length = n := by rw [f] at l2; simpa using l2
      rw [f, el, ← el2, compA_kd]
    · exact absurd p2 g3
  · exact absurd d1 h2
  · rw [if_neg (by omega), e]
    have el : s1.p.length = n := by rw [e] at l1; simpa using l1
    rcases step_kinds o2 with ⟨g1, g2, g3, f⟩ | ⟨g1, g2, g3, f⟩ | ⟨g1, g2, g3, f⟩
    · have el2 : t1.k.toNat = n := by rw [f] at l2; simpa using l2
      rw [if_pos g1, f, el2, ← el, compA_pk]
    · have el2 : t1.d.length = n := by rw [f] at l2; simpa using l2
      rw [if_neg (by omega), f, compA_pd _ _ _ _ (by omega)]
    · exact absurd p2 g3
/-- what two changes come to, one behind the other -/
def compP (a b : List Stp) : Int ⊕ List Stp := match sizesOf a, sizesOf b with
  | some (_, mid), some (from_, _) => if mid ≠ from_ then .inl 5 else match compA (nfOf (gapsOf a)) (nfOf (gapsOf b)) with
    | none => .inl 270
    | some o => .inr (Bld.start.run o).close.l
  | _, _ => .inl 2
end Go.Eng

/-
  Plain facts on changes: composing, with the builder at hand. No condition.
-/
namespace Go.Eng
open Go
/-- the answer, from here on -/
def cmpT (B : Bld) (xs ys : List Atm) : Option (List Stp) := (compA xs ys).map fun o => (B.run o).close.l
theorem cmpT_p (B : Bld) (xs : List Atm) (P : List UInt8) (ys : List Atm) : cmpT B xs (P.map .p ++ ys) = cmpT ⟨B.l, B.p ++ P, B.d⟩ xs ys := by
  unfold cmpT
  rw [compA_ps, Option.map_map]
  congr 1; funext o
  simp only [Function.comp, run_append, run_p]
theorem cmpT_d (B : Bld) (ds : List UInt8) (xs ys : List Atm) (h : notPut ys = true) : cmpT B (ds.map .d ++ xs) ys = cmpT ⟨B.l, B.p, B.d ++ ds⟩ xs ys := by
  unfold cmpT
  rw [compA_ds _ _ _ h, Option.map_map]
  congr 1; funext o
  simp only [Function.comp, run_append, run_d]
theorem cmpT_kk (B : Bld) (xs ys : List Atm) : cmpT B (.k :: xs) (.k :: ys) = cmpT (B.keep 1) xs ys := by
  unfold cmpT
  rw [compA, Option.map_map]; rfl
theorem cmpT_kd (B : Bld) (c : UInt8) (xs ys : List Atm) : cmpT B (.k :: xs) (.d c :: ys) = cmpT ⟨B.l, B.p, B.d ++ [c]⟩ xs ys := by
  unfold cmpT
  rw [compA, Option.map_map]; rfl
theorem cmpT_pk (B : Bld) (c : UInt8) (xs ys : List Atm) : cmpT B (.p c :: xs) (.k :: ys) = cmpT ⟨B.l, B.p ++ [c], B.d⟩ xs ys := by
  unfold cmpT
  rw [compA, Option.map_map]; rfl
theorem cmpT_pd (B : Bld) (b c : UInt8) (xs ys : List Atm) : cmpT B (.p b :: xs) (.d c :: ys) = if b = c then cmpT B xs ys else none := by
  unfold cmpT
  rw [compA]
  split <;> rfl
theorem cmpT_end (B : Bld) (ds : List UInt8) : cmpT B (ds.map .d) [] = some (⟨B.l, B.p, B.d ++ ds⟩ : Bld).close.l := by
  have h := cmpT_d B ds [] [] rfl
  rw [List.append_nil] at h
  rw [h]; unfold cmpT; rw [compA]; rfl
/-- the same step by step -/
theorem stp_put {B : Bld} {X Y : List Stp} {t : Stp} (ht : stpOk t) (hp : t.p ≠ []) : cmpT B (atomsOf X) (atomsOf (t :: Y)) = cmpT (B.step t) (atomsOf X) (atomsOf Y) := by
  unfold cmpT
  rw [comp_put ht hp, Option.map_map]
  congr 1; funext o
  simp only [Function.comp, run_append, run_step _ _ ht]
theorem stp_drop {B : Bld} {X Y : List Stp} {s : Stp} (hs : stpOk s) (hd : s.d ≠ []) (hY : ∀ y ∈ Y, stpOk y) (hp : ∀ t Y', Y = t :: Y' → t.p = []) : cmpT B (atomsOf (s :: X)) (atomsOf Y) = cmpT (B.step s) (atomsOf X) (atomsOf Y) := by
  unfold cmpT
  rw [comp_drop hs hd hY hp, Option.map_map]
  congr 1; funext o
  simp only [Function.comp, run_append, run_step _ _ hs]
theorem stp_nilY {B : Bld} {X : List Stp} (hX : ∀ x ∈ X, stpOk x) (hd : ∀ s X', X = s :: X' → s.d = []) : cmpT B (atomsOf X) (atomsOf []) = some B.close.l := by
  unfold cmpT; rw [comp_nilY hX hd]; rfl
theorem stp_nilX {B : Bld} {Y : List Stp} (hY : ∀ y ∈ Y, stpOk y) (hp : ∀ t Y', Y = t :: Y' → t.p = []) : cmpT B (atomsOf []) (atomsOf Y) = some B.close.l := by
  unfold cmpT; rw [comp_nilX hY hp]; rfl
theorem stp_both {B : Bld} {X Y : List Stp} {s t : Stp} {n : Nat} (hX : ∀ x ∈ s :: X, stpOk x) (hY : ∀ y ∈ t :: Y, stpOk y) (hd : s.d = []) (hp : t.p = []) (h0 : 0 < n) (hs : n ≤ s.atoms.length) (ht : n ≤ t.atoms.length) :
    cmpT B (atomsOf (s :: X)) (atomsOf (t :: Y)) = if 0 < (takeS s n).k then cmpT (B.step (takeS t n)) (atomsOf (restS s n X)) (atomsOf (restS t n Y))
      else if 0 < (takeS t n).k then cmpT (B.step (takeS s n)) (atomsOf (restS s n X)) (atomsOf (restS t n Y))
      else if (takeS s n).p = (takeS t n).d then cmpT B (atomsOf (restS s n X)) (atomsOf (restS t n Y)) else none := by
  have o1 := (takeS_ok (hX s List.mem_cons_self) h0 hs).1
  have o2 := (takeS_ok (hY t List.mem_cons_self) h0 ht).1
  unfold cmpT
  rw [comp_both hX hY hd hp h0 hs ht]
  split
  · rw [Option.map_map]
    congr 1; funext o
    simp only [Function.comp, run_append, run_step _ _ o2]
  · split
    · rw [Option.map_map]
      congr 1; funext o
      simp only [Function.comp, run_append, run_step _ _ o1]
    · split <;> rfl
/-- what is left of a stream is less -/
theorem rest_len {s : Stp} {n : Nat} {X : List Stp} (hX : ∀ x ∈ s :: X, stpOk x) (h0 : 0 < n) (hs : n ≤ s.atoms.length) : (atomsOf (s :: X)).length = n + (atomsOf (restS s n X)).length ∧ (takeS s n).atoms.length = n := by
  have h := parts_S hX h0 hs
  have h2 := (takeS_kind (hX s List.mem_cons_self) h0 hs).2.2.2
  rw [h, List.length_append, h2]
  exact ⟨rfl, rfl⟩
theorem bfit_step {N : Nat} {B : Bld} {s : Stp} (h : BFit N B) (hs : stpOk s) : BFit (N + 4 * s.atoms.length) (B.step s) := by
  rw [← run_step B s hs]; exact BFit.run _ h
theorem restS_all {s : Stp} {X : List Stp} : restS s s.atoms.length X = X := if_pos rfl
theorem stp_bounds {s : Stp} (h : stpOk s) : 0 ≤ s.k ∧ s.k ≤ s.atoms.length ∧ s.d.length ≤ s.atoms.length ∧ s.p.length ≤ s.atoms.length := by
  have := atoms_len s
  rcases h with ⟨h, _, _⟩ | ⟨h, _, _⟩ | ⟨h, _, _⟩ <;> omega
/-- the bytes of what a change makes: where each was, or what was put -/
def midsA : Nat → List Atm → List (Int × UInt8)
  | _, [] => []
  | i, .k :: l => ((i : Int), 0) :: midsA (i + 1) l
  | i, .d _ :: l => midsA (i + 1) l
  | i, .p c :: l => (-1, c) :: midsA i l
def bytesA : List Atm → List UInt8
  | [] => []
  | .k :: l => 0 :: bytesA l
  | .d c :: l => c :: bytesA l
  | .p _ :: l => bytesA l
theorem midsA_len : ∀ (i : Nat) (l : List Atm), (midsA i l).length = toA l
  | _, [] => rfl
  | i, .k :: l => by simp [midsA, toA, midsA_len (i + 1) l]
  | i, .d _ :: l => by simp [midsA, toA, midsA_len (i + 1) l]
  | i, .p c :: l => by simp [midsA, toA, midsA_len i l]
theorem bytesA_len : ∀ l : List Atm, (bytesA l).length = fromA l
  | [] => rfl
  | .k :: l => by simp [bytesA, fromA, bytesA_len l]
  | .d _ :: l => by simp [bytesA, fromA, bytesA_len l]
  | .p c :: l => by simp [bytesA, fromA, bytesA_len l]
theorem midsA_append : ∀ (i : Nat) (x y : List Atm), midsA i (x ++ y) = midsA i x ++ midsA (i + fromA x) y
  | i, [], y => by simp [midsA, fromA]
  | i, .k :: x, y => by
    rw [List.cons_append, midsA, midsA_append (i + 1) x y, midsA, fromA, List.cons_append]
    congr 3; omega
  | i, .d _ :: x, y => by
    rw [List.cons_append, midsA, midsA_append (i + 1) x y, midsA, fromA]
    congr 2; omega
  | i, .p c :: x, y => by
    rw [List.cons_append, midsA, midsA_append i x y, midsA, fromA, List.cons_append]
theorem bytesA_append : ∀ x y : List Atm, bytesA (x ++ y) = bytesA x ++ bytesA y
  | [], y => rfl
  | .k :: x, y => by simp [bytesA, bytesA_append x y]
  | .d _ :: x, y => by simp [bytesA, bytesA_append x y]
  | .p c :: x, y => by simp [bytesA, bytesA_append x y]
theorem midsA_ds (i : Nat) : ∀ ds : List UInt8, midsA i (ds.map .d) = []
  | [] => rfl
  | b :: ds => by rw [List.map_cons, midsA, midsA_ds]
theorem bytesA_ds : ∀ ds : List UInt8, bytesA (ds.map .d) = ds
  | [] => rfl
  | b :: ds => by rw [List.map_cons, bytesA, bytesA_ds]
theorem bytesA_ps : ∀ ds : List UInt8, bytesA (ds.map .p) = []
  | [] => rfl
  | b :: ds => by rw [List.map_cons, bytesA, bytesA_ps]
theorem midsA_ps (i : Nat) : ∀ ds : List UInt8, midsA i (ds.map .p) = ds.map fun c => (-1, c)
  | [] => rfl
  | b :: ds => by rw [List.map_cons, midsA, midsA_ps i ds]; rfl
theorem bytes_nf (g : Gs) : bytesA (nfOf g) = bytesOf g := by
  unfold nfOf bytesOf
  rw [bytesA_append]
  have h1 : ∀ x : Gap, bytesA (gapA x) = x.d := fun x => by rw [gapA, bytesA_append, bytesA_ps, bytesA_ds]; rfl
  rw [h1]
  congr 1
  have h2 : ∀ l : List Gap, bytesA (l.flatMap fun x => gapA x ++ [.k]) = l.flatMap bytesG := by
    intro l
    induction l with
    | nil => rfl
    | cons x l ih => rw [List.flatMap_cons, List.flatMap_cons, bytesA_append, bytesA_append, h1, ih]; rfl
  exact h2 _
/-- the next byte that is made -/
theorem split_mid : ∀ (l : List Atm), (∃ ds : List UInt8, l = ds.map .d) ∨ (∃ (ds : List UInt8) (l' : List Atm), l = ds.map .d ++ .k :: l') ∨ (∃ (ds : List UInt8) (c : UInt8) (l' : List Atm), l = ds.map .d ++ .p c :: l')
  | [] => .inl ⟨[], rfl⟩
  | .k :: l => .inr (.inl ⟨[], l, rfl⟩)
  | .p c :: l => .inr (.inr ⟨[], c, l, rfl⟩)
  | .d c :: l => by
    rcases split_mid l with ⟨ds, rfl⟩ | ⟨ds, l', rfl⟩ | ⟨ds, b, l', rfl⟩
    · exact .inl ⟨c :: ds, rfl⟩
    · exact .inr (.inl ⟨c :: ds, l', rfl⟩)
    · exact .inr (.inr ⟨c :: ds, b, l', rfl⟩)
/-- the bytes that are made, up to a place -/
def midsTo (P : List (List UInt8)) (D : List Bool) : Nat → List (Int × UInt8)
  | 0 => []
  | p + 1 => midsTo P D p ++ (P.getD p []).map (fun c => (-1, c)) ++ (if D.getD p true = false then [((p : Int), 0)] else [])
theorem mids_to (P : List (List UInt8)) (D : List Bool) (B : List UInt8) (h1 : B.length = D.length) (h2 : P.length = D.length + 1) : ∀ p, p ≤ D.length → midsTo P D p = midsA 0 (sdA ((P.zip (D.zip B)).take p) []) ∧ fromA (sdA ((P.zip (D.zip B)).take p) []) = p
  | 0, _ => ⟨by simp [midsTo, sdA, midsA], by simp [sdA, fromA]⟩
  | p + 1, h => by
    obtain ⟨e1, e2⟩ := mids_to P D B h1 h2 p (by omega)
    have hP : p < P.length := by omega
    have hB : p < B.length := by omega
    have hD : p < D.length := by omega
    have hz : (P.zip (D.zip B)).length = D.length := by simp [List.length_zip]; omega
    have hg : (P.zip (D.zip B)).take (p + 1) = (P.zip (D.zip B)).take p ++ [(P[p], D[p], B[p])] := by
      rw [List.take_succ_eq_append_getElem (by omega)]
      simp
    have es : sdA ((P.zip (D.zip B)).take (p + 1)) [] = sdA ((P.zip (D.zip B)).take p) [] ++ Pos.atoms (P[p], D[p], B[p]) := by
      rw [hg]; simp [sdA]
    have eD : D.getD p true = D[p] := by rw [List.getD_eq_getElem?_getD, List.getElem?_eq_getElem hD]; rfl
    have eP : P.getD p [] = P[p] := by rw [List.getD_eq_getElem?_getD, List.getElem?_eq_getElem hP]; rfl
    constructor
    · rw [midsTo, es, midsA_append, e2, e1, eD, eP, List.append_assoc, Pos.atoms, midsA_append, midsA_ps, fromA_p]
      cases D[p] <;> simp [midsA]
    · rw [es, fromA_append, e2, Pos.atoms, fromA_append, fromA_p]
      cases D[p] <;> simp [fromA]
theorem mids_all (l : List Stp) : midsTo (putsOf (gapsOf l)) (dropsOf (gapsOf l)) (putsOf (gapsOf l)).length = midsA 0 (nfOf (gapsOf l)) := by
  obtain ⟨h1, h2⟩ := said_len (gapsOf l)
  obtain ⟨e1, e2⟩ := mids_to _ _ _ h1 h2 (dropsOf (gapsOf l)).length (Nat.le_refl _)
  have hp := pos_len l
  rw [h2, midsTo, e1, ← sd_atoms]
  have ht : (posOf (gapsOf l)).take (dropsOf (gapsOf l)).length = posOf (gapsOf l) := List.take_of_length_le (by omega)
  unfold posOf at ht hp
  rw [ht]
  have hd : (dropsOf (gapsOf l)).getD (dropsOf (gapsOf l)).length true = true := by simp [List.getD_eq_getElem?_getD]
  rw [hd]
  simp only [Bool.true_eq_false, if_false, List.append_nil]
  have e3 : sdA (posOf (gapsOf l)) (lastOf (gapsOf l)) = sdA ((putsOf (gapsOf l)).zip ((dropsOf (gapsOf l)).zip (bytesOf (gapsOf l)))) [] ++ (lastOf (gapsOf l)).map .p := by simp [sdA, posOf]
  rw [e3, midsA_append, midsA_ps]
  rfl
end Go.Eng

/-
  Plain facts on changes: two changes carried over each other. No condition.
-/
namespace Go.Eng
open Go
/-- two changes byte by byte, carried over each other; none: they are apart -/
def carA : List Atm → List Atm → Option (List Atm × List Atm)
  | .p b :: xs, ys => (carA xs ys).map fun o => (.p b :: o.1, .k :: o.2)
  | [], .p b :: ys => (carA [] ys).map fun o => (.k :: o.1, .p b :: o.2)
  | .k :: xs, .p b :: ys => (carA (.k :: xs) ys).map fun o => (.k :: o.1, .p b :: o.2)
  | .d c :: xs, .p b :: ys => (carA (.d c :: xs) ys).map fun o => (.k :: o.1, .p b :: o.2)
  | .k :: xs, .k :: ys => (carA xs ys).map fun o => (.k :: o.1, .k :: o.2)
  | .d b :: xs, .k :: ys => (carA xs ys).map fun o => (.d b :: o.1, o.2)
  | .k :: xs, .d b :: ys => (carA xs ys).map fun o => (o.1, .d b :: o.2)
  | .d b :: xs, .d c :: ys => if b = c then carA xs ys else none
  | [], [] => some ([], [])
  | [], .k :: _ => some ([], [])
  | [], .d _ :: _ => some ([], [])
  | .k :: _, [] => some ([], [])
  | .d _ :: _, [] => some ([], [])
termination_by xs ys => xs.length + ys.length
theorem carA_px (b : UInt8) (xs ys : List Atm) : carA (.p b :: xs) ys = (carA xs ys).map fun o => (.p b :: o.1, .k :: o.2) := by
  match ys with
  | [] => rw [carA]
  | .k :: _ => rw [carA]
  | .d _ :: _ => rw [carA]
  | .p _ :: _ => rw [carA]
theorem carA_py (b : UInt8) (xs ys : List Atm) (h : notPut xs = true) : carA xs (.p b :: ys) = (carA xs ys).map fun o => (.k :: o.1, .p b :: o.2) := by
  match xs, h with
  | [], _ => rw [carA]
  | .k :: _, _ => rw [carA]
  | .d _ :: _, _ => rw [carA]
  | .p _ :: _, h => simp [notPut] at h
theorem carA_nilX (ys : List Atm) (h : notPut ys = true) : carA [] ys = some ([], []) := by
  match ys, h with
  | [], _ => rw [carA]
  | .k :: _, _ => rw [carA]
  | .d _ :: _, _ => rw [carA]
  | .p _ :: _, h => simp [notPut] at h
theorem carA_nilY (xs : List Atm) (h : notPut xs = true) : carA xs [] = some ([], []) := by
  match xs, h with
  | [], _ => rw [carA]
  | .k :: _, _ => rw [carA]
  | .d _ :: _, _ => rw [carA]
  | .p _ :: _, h => simp [notPut] at h
/-- the answer, from here on, with both builders at hand -/
def carT (U V : Bld) (n : Nat) (xs ys : List Atm) : Option (List Stp × List Stp × Nat) := (carA xs ys).map fun o => ((U.run o.1).close.l, (V.run o.2).close.l, n + toA o.1)
theorem carT_p1 (U V : Bld) (n : Nat) (b : UInt8) (xs ys : List Atm) : carT U V n (.p b :: xs) ys = carT ⟨U.l, U.p ++ [b], U.d⟩ (V.keep 1) (n + 1) xs ys := by
  unfold carT
  rw [carA_px, Option.map_map]
  congr 1; funext o
  simp only [Function.comp, toA]
  rw [show n + (toA o.1 + 1) = n + 1 + toA o.1 by omega]; rfl
theorem carT_q1 (U V : Bld) (n : Nat) (b : UInt8) (xs ys : List Atm) (h : notPut xs = true) : carT U V n xs (.p b :: ys) = carT (U.keep 1) ⟨V.l, V.p ++ [b], V.d⟩ (n + 1) xs ys := by
  unfold carT
  rw [carA_py _ _ _ h, Option.map_map]
  congr 1; funext o
  simp only [Function.comp, toA]
  rw [show n + (toA o.1 + 1) = n + 1 + toA o.1 by omega]; rfl
theorem keep_zero (B : Bld) : B.keep ((0 : Nat) : Int) = B := rfl
theorem keep_succ (B : Bld) (n : Nat) : (B.keep 1).keep (n : Int) = B.keep ((n + 1 : Nat) : Int) := by
  by_cases h : n = 0
  · subst h; rfl
  · rw [keep_keep _ _ _ (by omega) (by omega)]; congr 1; omega
theorem carT_p (xs ys : List Atm) : ∀ (P : List UInt8) (U V : Bld) (n : Nat), carT U V n (P.map .p ++ xs) ys = carT ⟨U.l, U.p ++ P, U.d⟩ (V.keep (P.length : Int)) (n + P.length) xs ys
  | [], U, V, n => by rw [List.length_nil, keep_zero]; simp
  | b :: P, U, V, n => by
    rw [List.map_cons, List.cons_append, carT_p1, carT_p xs ys P, keep_succ, List.length_cons]
    simp only [List.append_assoc, List.singleton_append]
    congr 1; omega
theorem carT_q (xs ys : List Atm) (h : notPut xs = true) : ∀ (P : List UInt8) (U V : Bld) (n : Nat), carT U V n xs (P.map .p ++ ys) = carT (U.keep (P.length : Int)) ⟨V.l, V.p ++ P, V.d⟩ (n + P.length) xs ys
  | [], U, V, n => by rw [List.length_nil, keep_zero]; simp
  | b :: P, U, V, n => by
    rw [List.map_cons, List.cons_append, carT_q1 _ _ _ _ _ _ h, carT_q xs ys h P, keep_succ, List.length_cons]
    simp only [List.append_assoc, List.singleton_append]
    congr 1; omega
theorem carT_kk (xs ys : List Atm) : ∀ (m : Nat) (U V : Bld) (n : Nat), carT U V n (List.replicate m .k ++ xs) (List.replicate m .k ++ ys) = carT (U.keep (m : Int)) (V.keep (m : Int)) (n + m) xs ys
  | 0, U, V, n => by simp [keep_zero, show U.keep 0 = U from rfl, show V.keep 0 = V from rfl]
  | m + 1, U, V, n => by
    have e : carT U V n (.k :: (List.replicate m .k ++ xs)) (.k :: (List.replicate m .k ++ ys)) = carT (U.keep 1) (V.keep 1) (n + 1) (List.replicate m .k ++ xs) (List.replicate m .k ++ ys) := by
      unfold carT
      rw [carA, Option.map_map]
      congr 1; funext o
      simp only [Function.comp, toA]
      rw [show n + (toA o.1 + 1) = n + 1 + toA o.1 by omega]; rfl
    rw [List.replicate_succ, List.cons_append, List.cons_append, e, carT_kk xs ys m, keep_succ, keep_succ]
    congr 1; omega
theorem carT_dk (xs ys : List Atm) : ∀ (ds : List UInt8) (U V : Bld) (n : Nat), carT U V n (ds.map .d ++ xs) (List.replicate ds.length .k ++ ys) = carT ⟨U.l, U.p, U.d ++ ds⟩ V n xs ys
  | [], U, V, n => by simp
  | b :: ds, U, V, n => by
    have e : carT U V n (.d b :: (ds.map .d ++ xs)) (.k :: (List.replicate ds.length .k ++ ys)) = carT ⟨U.l, U.p, U.d ++ [b]⟩ V n (ds.map .d ++ xs) (List.replicate ds.length .k ++ ys) := by
      unfold carT
      rw [carA, Option.map_map]
      congr 1
    rw [List.map_cons, List.length_cons, List.replicate_succ, List.cons_append, List.cons_append, e, carT_dk xs ys ds]
    simp
theorem carT_kd (xs ys : List Atm) : ∀ (ds : List UInt8) (U V : Bld) (n : Nat), carT U V n (List.replicate ds.length .k ++ xs) (ds.map .d ++ ys) = carT U ⟨V.l, V.p, V.d ++ ds⟩ n xs ys
  | [], U, V, n => by simp
  | b :: ds, U, V, n => by
    have e : carT U V n (.k :: (List.replicate ds.length .k ++ xs)) (.d b :: (ds.map .d ++ ys)) = carT U ⟨V.l, V.p, V.d ++ [b]⟩ n (List.replicate ds.length .k ++ xs) (ds.map .d ++ ys) := by
      unfold carT
      rw [carA, Option.map_map]
      congr 1
    rw [List.map_cons, List.length_cons, List.replicate_succ, List.cons_append, List.cons_append, e, carT_kd xs ys ds]
    simp
theorem carT_dd (xs ys : List Atm) (U V : Bld) (n : Nat) : ∀ (ds es : List UInt8), ds.length = es.length → carT U V n (ds.map .d ++ xs) (es.map .d ++ ys) = if ds = es then carT U V n xs ys else none
  | [], [], _ => by simp
  | b :: ds, c :: es, h => by
    have e : carT U V n (.d b :: (ds.map .d ++ xs)) (.d c :: (es.map .d ++ ys)) = if b = c then carT U V n (ds.map .d ++ xs) (es.map .d ++ ys) else none := by
      unfold carT
      rw [carA]
      split <;> rfl
    rw [List.map_cons, List.map_cons, List.cons_append, List.cons_append, e, carT_dd xs ys U V n ds es (by simpa using h)]
    by_cases hb : b = c
    · subst hb; simp
    · simp [hb]
  | [], _ :: _, h => by simp at h
  | _ :: _, [], h => by simp at h
theorem carT_nilX (U V : Bld) (n : Nat) (ys : List Atm) (h : notPut ys = true) : carT U V n [] ys = some (U.close.l, V.close.l, n) := by
  unfold carT; rw [carA_nilX _ h]; rfl
theorem carT_nilY (U V : Bld) (n : Nat) (xs : List Atm) (h : notPut xs = true) : carT U V n xs [] = some (U.close.l, V.close.l, n) := by
  unfold carT; rw [carA_nilY _ h]; rfl
/-- the same step by step -/
theorem cst_px {U V : Bld} {n : Nat} {X Y : List Stp} {s : Stp} (hs : stpOk s) (hp : s.p ≠ []) : carT U V n (atomsOf (s :: X)) (atomsOf Y) = carT (U.step s) (V.keep (s.p.length : Int)) (n + s.p.length) (atomsOf X) (atomsOf Y) := by
  rcases step_kinds hs with ⟨h1, h2, h3, e⟩ | ⟨h1, h2, h3, e⟩ | ⟨h1, h2, h3, e⟩
  · exact absurd h3 hp
  · exact absurd h3 hp
  · rw [atoms_cons, e, carT_p]
    congr 1
    unfold Bld.step; rw [if_neg (by omega), if_neg (fun h => h h2)]
theorem cst_py {U V : Bld} {n : Nat} {X Y : List Stp} {t : Stp} (ht : stpOk t) (hp : t.p ≠ []) (hX : ∀ x ∈ X, stpOk x) (hq : ∀ s X', X = s :: X' → s.p = []) : carT U V n (atomsOf X) (atomsOf (t :: Y)) = carT (U.keep (t.p.length : Int)) (V.step t) (n + t.p.length) (atomsOf X) (atomsOf Y) := by
  rcases step_kinds ht with ⟨h1, h2, h3, e⟩ | ⟨h1, h2, h3, e⟩ | ⟨h1, h2, h3, e⟩
  · exact absurd h3 hp
  · exact absurd h3 hp
  · rw [atoms_cons, e, carT_q _ _ (notPut_atoms hX hq)]
    congr 1
    unfold Bld.step; rw [if_neg (by omega), if_neg (fun h => h h2)]
theorem step_d {B : Bld} {s : Stp} (h : ¬ 0 < s.k) (h2 : s.d ≠ []) : B.step s = ⟨B.l, B.p, B.d ++ s.d⟩ := by unfold Bld.step; rw [if_neg h, if_pos h2]
theorem cst_both {U V : Bld} {q : Nat} {X Y : List Stp} {s t : Stp} {n : Nat} (hX : ∀ x ∈ s :: X, stpOk x) (hY : ∀ y ∈ t :: Y, stpOk y) (hs0 : s.p = []) (ht0 : t.p = []) (h0 : 0 < n) (hs : n ≤ s.atoms.length) (ht : n ≤ t.atoms.length) :
    carT U V q (atomsOf (s :: X)) (atomsOf (t :: Y)) =
      if 0 < (takeS s n).k ∧ 0 < (takeS t n).k then carT (U.keep (n : Int)) (V.keep (n : Int)) (q + n) (atomsOf (restS s n X)) (atomsOf (restS t n Y))
      else if 0 < (takeS s n).k then carT U (V.step (takeS t n)) q (atomsOf (restS s n X)) (atomsOf (restS t n Y))
      else if 0 < (takeS t n).k then carT (U.step (takeS s n)) V q (atomsOf (restS s n X)) (atomsOf (restS t n Y))
      else if (takeS s n).d = (takeS t n).d then carT U V q (atomsOf (restS s n X)) (atomsOf (restS t n Y)) else none := by
  have a1 := takeS_kind (hX s List.mem_cons_self) h0 hs
  have a2 := takeS_kind (hY t List.mem_cons_self) h0 ht
  have o1 := (takeS_ok (hX s List.mem_cons_self) h0 hs).1
  have o2 := (takeS_ok (hY t List.mem_cons_self) h0 ht).1
  rw [parts_S hX h0 hs, parts_S hY h0 ht]
  generalize takeS s n = s1 at *
  generalize takeS t n = t1 at *
  have p1 : s1.p = [] := a1.2.2.1.2 hs0
  have p2 : t1.p = [] := a2.2.2.1.2 ht0
  have l1 := a1.2.2.2
  have l2 := a2.2.2.2
  rcases step_kinds o1 with ⟨h1, h2, h3, e⟩ | ⟨h1, h2, h3, e⟩ | ⟨h1, h2, h3, e⟩
  · have el : s1.k.toNat = n := by rw [e] at l1; simpa using l1
    rcases step_kinds o2 with ⟨g1, g2, g3, f⟩ | ⟨g1, g2, g3, f⟩ | ⟨g1, g2, g3, f⟩
    · have el2 : t1.k.toNat = n := by rw [f] at l2; simpa using l2
      rw [if_pos ⟨h1, g1⟩, e, f, el, el2, carT_kk]
    · have el2 : t1.d.length = n := by rw [f] at l2; simpa using l2
      rw [if_neg (by omega), if_pos h1, e, f, el, ← el2, carT_kd, step_d (by omega) g2]
    · exact absurd p2 g3
  · have el : s1.d.length = n := by rw [e] at l1; simpa using l1
    rcases step_kinds o2 with ⟨g1, g2, g3, f⟩ | ⟨g1, g2, g3, f⟩ | ⟨g1, g2, g3, f⟩
    · have el2 : t1.k.toNat = n := by rw [f] at l2; simpa using l2
      rw [if_neg (by omega), if_neg (by omega), if_pos g1, e, f, el2, ← el, carT_dk, step_d (by omega) h2]
    · have el2 : t1.d.length = n := by rw [f] at l2; simpa using l2
      rw [if_neg (by omega), if_neg (by omega), if_neg (by omega), e, f, carT_dd _ _ _ _ _ _ _ (by omega)]
    · exact absurd p2 g3
  · exact absurd p1 h3
theorem cst_nilX {U V : Bld} {n : Nat} {Y : List Stp} (hY : ∀ y ∈ Y, stpOk y) (hp : ∀ t Y', Y = t :: Y' → t.p = []) : carT U V n (atomsOf []) (atomsOf Y) = some (U.close.l, V.close.l, n) := carT_nilX _ _ _ _ (notPut_atoms hY hp)
theorem cst_nilY {U V : Bld} {n : Nat} {X : List Stp} (hX : ∀ x ∈ X, stpOk x) (hp : ∀ s X', X = s :: X' → s.p = []) : carT U V n (atomsOf X) (atomsOf []) = some (U.close.l, V.close.l, n) := carT_nilY _ _ _ _ (notPut_atoms hX hp)
/-- what two changes carried over each other come to -/
def carP (a b : List Stp) : Int ⊕ (List Stp × List Stp) := match sizesOf a, sizesOf b with
  | some (from_, _), some (same, _) => if from_ ≠ same then .inl 5 else match carT Bld.start Bld.start 0 (nfOf (gapsOf a)) (nfOf (gapsOf b)) with
    | none => .inl 270
    | some (u, v, n) => if 65536 < n then .inl 3 else .inr (u, v)
  | _, _ => .inl 2
/-- the same place by place, as the reference goes -/
theorem car_pos {U V : Bld} {n : Nat} {x y : Pos} {ps qs : List Pos} {lx ly : List UInt8} :
    carT U V n (sdA (x :: ps) lx) (sdA (y :: qs) ly) = (let U1 := (⟨U.l, U.p ++ x.1, U.d⟩ : Bld).keep (y.1.length : Int)
      let V0 := V.keep (x.1.length : Int)
      let V1 : Bld := ⟨V0.l, V0.p ++ y.1, V0.d⟩
      let n1 := n + x.1.length + y.1.length
      if x.2.1 = true ∧ y.2.1 = true then (if x.2.2 = y.2.2 then carT U1 V1 n1 (sdA ps lx) (sdA qs ly) else none)
      else if x.2.1 = true then carT ⟨U1.l, U1.p, U1.d ++ [x.2.2]⟩ V1 n1 (sdA ps lx) (sdA qs ly)
      else if y.2.1 = true then carT U1 ⟨V1.l, V1.p, V1.d ++ [y.2.2]⟩ n1 (sdA ps lx) (sdA qs ly)
      else carT (U1.keep 1) (V1.keep 1) (n1 + 1) (sdA ps lx) (sdA qs ly)) := by
  simp only []
  have hnp : notPut ((if x.2.1 then .d x.2.2 else .k) :: sdA ps lx) = true := by cases x.2.1 <;> rfl
  rw [sdA_cons, sdA_cons, carT_p, carT_q _ _ hnp]
  cases hx : x.2.1 <;> cases hy : y.2.1 <;> simp only [Bool.false_eq_true, if_false, if_true, and_self, and_false, false_and, and_true]
  · exact carT_kk (sdA ps lx) (sdA qs ly) 1 _ _ _
  · exact carT_kd (sdA ps lx) (sdA qs ly) [y.2.2] _ _ _
  · exact carT_dk (sdA ps lx) (sdA qs ly) [x.2.2] _ _ _
  · have := carT_dd (sdA ps lx) (sdA qs ly) ((⟨U.l, U.p ++ x.1, U.d⟩ : Bld).keep (y.1.length : Int)) ⟨(V.keep (x.1.length : Int)).l, (V.keep (x.1.length : Int)).p ++ y.1, (V.keep (x.1.length : Int)).d⟩ (n + x.1.length + y.1.length) [x.2.2] [y.2.2] rfl
    simpa using this
theorem car_last {U V : Bld} {n : Nat} {lx ly : List UInt8} :
    carT U V n (sdA [] lx) (sdA [] ly) = (let U1 := (⟨U.l, U.p ++ lx, U.d⟩ : Bld).keep (ly.length : Int)
      let V0 := V.keep (lx.length : Int)
      some (U1.close.l, (⟨V0.l, V0.p ++ ly, V0.d⟩ : Bld).close.l, n + lx.length + ly.length)) := by
  simp only []
  rw [sdA_nil, sdA_nil]
  have h1 := carT_p [] (ly.map .p) lx U V n
  have h2 := fun U V n => carT_q [] [] rfl ly U V n
  rw [List.append_nil] at h1
  simp only [List.append_nil] at h2
  rw [h1, h2, carT_nilX _ _ _ _ rfl]
end Go.Eng

/-
  Plain facts on changes: carried over each other they come to one text; one behind the other the same. No condition.
-/
namespace Go.Eng
open Go
/-- carried over each other, two changes of one text come to one text -/
theorem conv_car : ∀ (A B : List Atm) (s t u : List UInt8), applyA s A = some t → applyA s B = some u → fromA A = s.length → fromA B = s.length →
    ∃ O U v, carA A B = some (O, U) ∧ applyA t U = some v ∧ applyA u O = some v ∧ fromA U = t.length ∧ fromA O = u.length ∧ toA O = v.length ∧ toA U = v.length ∧ v.length ≤ t.length + u.length
  | .p b :: A, B, s, t, u, h1, h2, h3, h4 => by
    rw [applyA_p] at h1
    obtain ⟨t', h1', rfl⟩ := Option.map_eq_some_iff.1 h1
    obtain ⟨O, U, v, e1, e2, e3, e4, e5, e6, e7, e8⟩ := conv_car A B s t' u h1' h2 (by simpa [fromA] using h3) h4
    refine ⟨.p b :: O, .k :: U, b :: v, by rw [carA_px, e1]; rfl, by rw [applyA, e2]; rfl, by rw [applyA_p, e3]; rfl, ?_, ?_, ?_, ?_, ?_⟩ <;> (try simp only [fromA, toA, List.length_cons]) <;> omega
  | .k :: A, .p b :: B, s, t, u, h1, h2, h3, h4 => by
    rw [applyA_p] at h2
    obtain ⟨u', h2', rfl⟩ := Option.map_eq_some_iff.1 h2
    obtain ⟨O, U, v, e1, e2, e3, e4, e5, e6, e7, e8⟩ := conv_car (.k :: A) B s t u' h1 h2' h3 (by simpa [fromA] using h4)
    refine ⟨.k :: O, .p b :: U, b :: v, by rw [carA_py _ _ _ rfl, e1]; rfl, by rw [applyA_p, e2]; rfl, by rw [applyA, e3]; rfl, ?_, ?_, ?_, ?_, ?_⟩ <;> (try simp only [fromA, toA, List.length_cons]) <;> omega
  | .d c :: A, .p b :: B, s, t, u, h1, h2, h3, h4 => by
    rw [applyA_p] at h2
    obtain ⟨u', h2', rfl⟩ := Option.map_eq_some_iff.1 h2
    obtain ⟨O, U, v, e1, e2, e3, e4, e5, e6, e7, e8⟩ := conv_car (.d c :: A) B s t u' h1 h2' h3 (by simpa [fromA] using h4)
    refine ⟨.k :: O, .p b :: U, b :: v, by rw [carA_py _ _ _ rfl, e1]; rfl, by rw [applyA_p, e2]; rfl, by rw [applyA, e3]; rfl, ?_, ?_, ?_, ?_, ?_⟩ <;> (try simp only [fromA, toA, List.length_cons]) <;> omega
  | [], .p b :: B, s, t, u, h1, h2, h3, h4 => by
    rw [applyA_p] at h2
    obtain ⟨u', h2', rfl⟩ := Option.map_eq_some_iff.1 h2
    obtain ⟨O, U, v, e1, e2, e3, e4, e5, e6, e7, e8⟩ := conv_car [] B s t u' h1 h2' h3 (by simpa [fromA] using h4)
    refine ⟨.k :: O, .p b :: U, b :: v, by rw [carA_py _ _ _ rfl, e1]; rfl, by rw [applyA_p, e2]; rfl, by rw [applyA, e3]; rfl, ?_, ?_, ?_, ?_, ?_⟩ <;> (try simp only [fromA, toA, List.length_cons]) <;> omega
  | .k :: A, .k :: B, [], t, u, h1, h2, h3, h4 => by simp [fromA] at h3
  | .k :: A, .k :: B, c :: s, t, u, h1, h2, h3, h4 => by
    rw [applyA] at h1
    rw [applyA] at h2
    obtain ⟨t', h1', rfl⟩ := Option.map_eq_some_iff.1 h1
    obtain ⟨u', h2', rfl⟩ := Option.map_eq_some_iff.1 h2
    obtain ⟨O, U, v, e1, e2, e3, e4, e5, e6, e7, e8⟩ := conv_car A B s t' u' h1' h2' (by simpa [fromA] using h3) (by simpa [fromA] using h4)
    refine ⟨.k :: O, .k :: U, c :: v, by rw [carA, e1]; rfl, by rw [applyA, e2]; rfl, by rw [applyA, e3]; rfl, ?_, ?_, ?_, ?_, ?_⟩ <;> (try simp only [fromA, toA, List.length_cons]) <;> omega
  | .d b :: A, .k :: B, [], t, u, h1, h2, h3, h4 => by simp [fromA] at h3
  | .d b :: A, .k :: B, c :: s, t, u, h1, h2, h3, h4 => by
    rw [applyA] at h1
    rw [applyA] at h2
    split at h1
    · rename_i hcb
      subst hcb
      obtain ⟨u', h2', rfl⟩ := Option.map_eq_some_iff.1 h2
      obtain ⟨O, U, v, e1, e2, e3, e4, e5, e6, e7, e8⟩ := conv_car A B s t u' h1 h2' (by simpa [fromA] using h3) (by simpa [fromA] using h4)
      refine ⟨.d c :: O, U, v, by rw [carA, e1]; rfl, e2, by rw [applyA, if_pos rfl]; exact e3, ?_, ?_, ?_, ?_, ?_⟩ <;> (try simp only [fromA, toA, List.length_cons]) <;> omega
    · cases h1
  | .k :: A, .d b :: B, [], t, u, h1, h2, h3, h4 => by simp [fromA] at h3
  | .k :: A, .d b :: B, c :: s, t, u, h1, h2, h3, h4 => by
    rw [applyA] at h1
    rw [applyA] at h2
    split at h2
    · rename_i hcb
      subst hcb
      obtain ⟨t', h1', rfl⟩ := Option.map_eq_some_iff.1 h1
      obtain ⟨O, U, v, e1, e2, e3, e4, e5, e6, e7, e8⟩ := conv_car A B s t' u h1' h2 (by simpa [fromA] using h3) (by simpa [fromA] using h4)
      refine ⟨O, .d c :: U, v, by rw [carA, e1]; rfl, by rw [applyA, if_pos rfl]; exact e2, e3, ?_, ?_, ?_, ?_, ?_⟩ <;> (try simp only [fromA, toA, List.length_cons]) <;> omega
    · cases h2
  | .d b :: A, .d b' :: B, [], t, u, h1, h2, h3, h4 => by simp [fromA] at h3
  | .d b :: A, .d b' :: B, c :: s, t, u, h1, h2, h3, h4 => by
    rw [applyA] at h1
    rw [applyA] at h2
    split at h1
    · split at h2
      · rename_i g1 g2
        subst g1; subst g2
        obtain ⟨O, U, v, e1, e2, e3, e4, e5, e6, e7, e8⟩ := conv_car A B s t u h1 h2 (by simpa [fromA] using h3) (by simpa [fromA] using h4)
        exact ⟨O, U, v, by rw [carA, if_pos rfl]; exact e1, e2, e3, e4, e5, e6, e7, e8⟩
      · cases h2
    · cases h1
  | [], [], s, t, u, h1, h2, h3, h4 => by
    rw [applyA_nil] at h1 h2
    cases h1; cases h2
    exact ⟨[], [], [], by rw [carA], rfl, rfl, rfl, rfl, rfl, rfl, Nat.zero_le _⟩
  | [], .k :: B, s, t, u, h1, h2, h3, h4 => by simp only [fromA] at h3 h4; omega
  | [], .d _ :: B, s, t, u, h1, h2, h3, h4 => by simp only [fromA] at h3 h4; omega
  | .k :: A, [], s, t, u, h1, h2, h3, h4 => by simp only [fromA] at h3 h4; omega
  | .d _ :: A, [], s, t, u, h1, h2, h3, h4 => by simp only [fromA] at h3 h4; omega
termination_by A B => A.length + B.length
/-- one behind the other -/
theorem conv_comp : ∀ (A B : List Atm) (s t v : List UInt8), applyA s A = some t → applyA t B = some v → fromA A = s.length → fromA B = t.length →
    ∃ C, compA A B = some C ∧ applyA s C = some v ∧ fromA C = s.length ∧ toA C = v.length
  | A, .p b :: B, s, t, v, h1, h2, h3, h4 => by
    rw [applyA_p] at h2
    obtain ⟨v', h2', rfl⟩ := Option.map_eq_some_iff.1 h2
    obtain ⟨C, e1, e2, e3, e4⟩ := conv_comp A B s t v' h1 h2' h3 (by simpa [fromA] using h4)
    exact ⟨.p b :: C, by rw [compA_p, e1]; rfl, by rw [applyA_p, e2]; rfl, by simpa [fromA] using e3, by simp [toA, e4]⟩
  | .d b :: A, .k :: B, [], t, v, h1, h2, h3, h4 => by simp [fromA] at h3
  | .d b :: A, .k :: B, c :: s, t, v, h1, h2, h3, h4 => by
    rw [applyA] at h1
    split at h1
    · rename_i g
      subst g
      obtain ⟨C, e1, e2, e3, e4⟩ := conv_comp A (.k :: B) s t v h1 h2 (by simpa [fromA] using h3) h4
      exact ⟨.d c :: C, by rw [compA_d _ _ _ rfl, e1]; rfl, by rw [applyA, if_pos rfl]; exact e2, by simp [fromA, e3], by simpa [toA] using e4⟩
    · cases h1
  | .d b :: A, .d b' :: B, [], t, v, h1, h2, h3, h4 => by simp [fromA] at h3
  | .d b :: A, .d b' :: B, c :: s, t, v, h1, h2, h3, h4 => by
    rw [applyA] at h1
    split at h1
    · rename_i g
      subst g
      obtain ⟨C, e1, e2, e3, e4⟩ := conv_comp A (.d b' :: B) s t v h1 h2 (by simpa [fromA] using h3) h4
      exact ⟨.d c :: C, by rw [compA_d _ _ _ rfl, e1]; rfl, by rw [applyA, if_pos rfl]; exact e2, by simp [fromA, e3], by simpa [toA] using e4⟩
    · cases h1
  | .d b :: A, [], [], t, v, h1, h2, h3, h4 => by simp [fromA] at h3
  | .d b :: A, [], c :: s, t, v, h1, h2, h3, h4 => by
    rw [applyA] at h1
    split at h1
    · rename_i g
      subst g
      obtain ⟨C, e1, e2, e3, e4⟩ := conv_comp A [] s t v h1 h2 (by simpa [fromA] using h3) h4
      exact ⟨.d c :: C, by rw [compA_d _ _ _ rfl, e1]; rfl, by rw [applyA, if_pos rfl]; exact e2, by simp [fromA, e3], by simpa [toA] using e4⟩
    · cases h1
  | .k :: A, .k :: B, [], t, v, h1, h2, h3, h4 => by simp [fromA] at h3
  | .k :: A, .k :: B, c :: s, t, v, h1, h2, h3, h4 => by
    rw [applyA] at h1
    obtain ⟨t', h1', rfl⟩ := Option.map_eq_some_iff.1 h1
    rw [applyA] at h2
    obtain ⟨v', h2', rfl⟩ := Option.map_eq_some_iff.1 h2
    obtain ⟨C, e1, e2, e3, e4⟩ := conv_comp A B s t' v' h1' h2' (by simpa [fromA] using h3) (by simpa [fromA] using h4)
    exact ⟨.k :: C, by rw [compA, e1]; rfl, by rw [applyA, e2]; rfl, by simp [fromA, e3], by simp [toA, e4]⟩
  | .k :: A, .d b :: B, [], t, v, h1, h2, h3, h4 => by simp [fromA] at h3
  | .k :: A, .d b :: B, c :: s, t, v, h1, h2, h3, h4 => by
    rw [applyA] at h1
    obtain ⟨t', h1', rfl⟩ := Option.map_eq_some_iff.1 h1
    rw [applyA] at h2
    split at h2
    · rename_i g
      subst g
      obtain ⟨C, e1, e2, e3, e4⟩ := conv_comp A B s t' v h1' h2 (by simpa [fromA] using h3) (by simpa [fromA] using h4)
      exact ⟨.d c :: C, by rw [compA, e1]; rfl, by rw [applyA, if_pos rfl]; exact e2, by simp [fromA, e3], by simpa [toA] using e4⟩
    · cases h2
  | .p b :: A, .k :: B, s, t, v, h1, h2, h3, h4 => by
    rw [applyA_p] at h1
    obtain ⟨t', h1', rfl⟩ := Option.map_eq_some_iff.1 h1
    rw [applyA] at h2
    obtain ⟨v', h2', rfl⟩ := Option.map_eq_some_iff.1 h2
    obtain ⟨C, e1, e2, e3, e4⟩ := conv_comp A B s t' v' h1' h2' (by simpa [fromA] using h3) (by simpa [fromA] using h4)
    exact ⟨.p b :: C, by rw [compA, e1]; rfl, by rw [applyA_p, e2]; rfl, by simpa [fromA] using e3, by simp [toA, e4]⟩
  | .p b :: A, .d c :: B, s, t, v, h1, h2, h3, h4 => by
    rw [applyA_p] at h1
    obtain ⟨t', h1', rfl⟩ := Option.map_eq_some_iff.1 h1
    rw [applyA] at h2
    split at h2
    · rename_i g
      subst g
      obtain ⟨C, e1, e2, e3, e4⟩ := conv_comp A B s t' v h1' h2 (by simpa [fromA] using h3) (by simpa [fromA] using h4)
      exact ⟨C, by rw [compA, if_pos rfl]; exact e1, e2, e3, e4⟩
    · cases h2
  | [], [], s, t, v, h1, h2, h3, h4 => by
    rw [applyA_nil] at h1
    cases h1
    rw [applyA_nil] at h2
    cases h2
    exact ⟨[], by rw [compA], applyA_nil _, h3, rfl⟩
  | [], .k :: B, s, t, v, h1, h2, h3, h4 => by
    rw [applyA_nil] at h1
    cases h1
    simp [fromA] at h4
  | [], .d _ :: B, s, t, v, h1, h2, h3, h4 => by
    rw [applyA_nil] at h1
    cases h1
    simp [fromA] at h4
  | .k :: A, [], [], t, v, h1, h2, h3, h4 => by simp [fromA] at h3
  | .k :: A, [], c :: s, t, v, h1, h2, h3, h4 => by
    rw [applyA] at h1
    obtain ⟨t', h1', rfl⟩ := Option.map_eq_some_iff.1 h1
    simp [fromA] at h4
  | .p b :: A, [], s, t, v, h1, h2, h3, h4 => by
    rw [applyA_p] at h1
    obtain ⟨t', h1', rfl⟩ := Option.map_eq_some_iff.1 h1
    simp [fromA] at h4
termination_by A B => A.length + B.length
/-- what a change makes does not depend on the order of what is put and dropped -/
theorem apply_congr (X Y : List Atm) (h : ∀ s, applyA s X = applyA s Y) : ∀ (pre : List Atm) (s : List UInt8), applyA s (pre ++ X) = applyA s (pre ++ Y)
  | [], s => h s
  | .p b :: pre, s => by rw [List.cons_append, List.cons_append, applyA_p, applyA_p, apply_congr X Y h pre s]
  | .k :: pre, [] => rfl
  | .k :: pre, c :: s => by rw [List.cons_append, List.cons_append, applyA, applyA, apply_congr X Y h pre s]
  | .d b :: pre, [] => rfl
  | .d b :: pre, c :: s => by rw [List.cons_append, List.cons_append, applyA, applyA, apply_congr X Y h pre s]
theorem applyA_dc (c b : UInt8) (s : List UInt8) (l : List Atm) : applyA (c :: s) (.d b :: l) = if c = b then applyA s l else none := rfl
theorem apply_swap (c : UInt8) (L : List Atm) : ∀ (ds s : List UInt8), applyA s (ds.map .d ++ .p c :: L) = applyA s (.p c :: (ds.map .d ++ L))
  | [], s => rfl
  | b :: ds, [] => by rw [applyA_p]; rfl
  | b :: ds, e :: s => by
    rw [List.map_cons, List.cons_append, List.cons_append, applyA_dc, apply_swap c L ds s, applyA_p, applyA_p, applyA_dc]
    split <;> rfl
theorem apply_atom (g : Gs) (a : Atm) (L : List Atm) (s : List UInt8) : applyA s (nfOf (g.atom a) ++ L) = applyA s (nfOf g ++ a :: L) := by
  cases a with
  | k => simp [Gs.atom, nfOf, gapA]
  | d c => simp [Gs.atom, nfOf, gapA]
  | p c =>
    simp only [Gs.atom, nfOf, gapA, List.map_append, List.map_cons, List.map_nil, List.append_assoc, List.cons_append, List.nil_append]
    rw [← List.append_assoc, ← List.append_assoc (g.done.flatMap _)]
    exact apply_congr _ _ (fun s => (apply_swap c L g.cur.d s).symm) _ s
theorem apply_run : ∀ (L : List Atm) (g : Gs) (s : List UInt8), applyA s (nfOf (g.run L)) = applyA s (nfOf g ++ L)
  | [], g, s => by rw [List.append_nil]; rfl
  | a :: L, g, s => by
    rw [show g.run (a :: L) = (g.atom a).run L from rfl, apply_run L (g.atom a) s, apply_atom]
theorem apply_start (L : List Atm) (s : List UInt8) : applyA s (nfOf (Gs.start.run L)) = applyA s L := apply_run L Gs.start s
theorem apply_nf (l : List Stp) (h : ∀ s ∈ l, stpOk s) (s : List UInt8) : applyA s (nfOf (gapsOf l)) = applyA s (atomsOf l) := by rw [gapsOf_run l h, apply_start]
/-- the builder over bytes is the builder over gaps -/
theorem bld_atom (g : Gs) (a : Atm) : (bldGs g).atom a = bldGs (g.atom a) := by
  cases a with
  | k => simp [Bld.atom, bldGs, Gs.atom, bldGap]
  | d c => simp [Bld.atom, bldGs, Gs.atom]
  | p c => simp [Bld.atom, bldGs, Gs.atom]
theorem bld_run : ∀ (L : List Atm) (g : Gs), (bldGs g).run L = bldGs (g.run L)
  | [], _ => rfl
  | a :: L, g => by
    rw [show g.run (a :: L) = (g.atom a).run L from rfl, ← bld_run L (g.atom a), ← bld_atom]; rfl
theorem start_run (L : List Atm) : Bld.start.run L = bldGs (Gs.start.run L) := bld_run L Gs.start
/-- the list that a builder makes of bytes -/
def listOf (L : List Atm) : List Stp := (Bld.start.run L).close.l
theorem list_ok (L : List Atm) : (∀ s ∈ listOf L, stpOk s) ∧ atomsOf (listOf L) = nfOf (Gs.start.run L) := by
  unfold listOf
  rw [start_run]
  exact ⟨close_ok _ (bldGs_atoms _).2, by rw [close_atoms, (bldGs_atoms _).1]⟩
theorem run_nf (g : Gs) : Gs.start.run (nfOf g) = g := by
  have h : ∀ (l : List Gap) (D : List Gap), (⟨D, ⟨[], []⟩⟩ : Gs).run (l.flatMap fun x => gapA x ++ [.k]) = ⟨D ++ l, ⟨[], []⟩⟩ := by
    intro l
    induction l with
    | nil => intro D; simp [Gs.run]
    | cons x l ih =>
      intro D
      rw [List.flatMap_cons, grun_append, grun_append, gapA, grun_append, grun_p, grun_d]
      have : (⟨D, ⟨[] ++ x.p, [] ++ x.d⟩⟩ : Gs).run [.k] = ⟨D ++ [x], ⟨[], []⟩⟩ := by simp [Gs.run, Gs.atom]
      rw [this, ih]; simp
  obtain ⟨D, c⟩ := g
  unfold nfOf
  rw [grun_append, show Gs.start = ⟨[], ⟨[], []⟩⟩ from rfl, h, gapA, grun_append, grun_p, grun_d]
  simp
theorem list_gaps (L : List Atm) : gapsOf (listOf L) = Gs.start.run L := by
  rw [gapsOf_run _ (list_ok L).1, (list_ok L).2, run_nf]
theorem list_sizes (L : List Atm) : fromA (atomsOf (listOf L)) = fromA L ∧ toA (atomsOf (listOf L)) = toA L := by
  obtain ⟨h1, h2⟩ := nf_run L Gs.start
  rw [(list_ok L).2, h1, h2]
  simp [Gs.start, nfOf, gapA, fromA, toA]
theorem plain_list (l : List Stp) : plainOf l = listOf (nfOf (gapsOf l)) := plain_run l
/-- sizes of a change that may be, the other way round -/
theorem sizesF_of : ∀ (l : List Stp) (f t : Int), (∀ s ∈ l, stpOk s) → 0 ≤ f → 0 ≤ t → f + (fromA (atomsOf l) : Int) ≤ maxT → t + (toA (atomsOf l) : Int) ≤ maxT → sizesF l f t = some (f + (fromA (atomsOf l) : Int), t + (toA (atomsOf l) : Int))
  | [], f, t, _, _, _, _, _ => by simp [sizesF, atomsOf, fromA, toA]
  | s :: l, f, t, h, h1, h2, h3, h4 => by
    have hs := h s List.mem_cons_self
    have hk : 0 ≤ s.k := by rcases hs with ⟨h, _, _⟩ | ⟨h, _, _⟩ | ⟨h, _, _⟩ <;> omega
    rw [atoms_cons] at h3 h4 ⊢
    rw [fromA_append, from_step] at h3 ⊢
    rw [toA_append, to_step] at h4 ⊢
    rw [sizesF, if_pos ⟨hs, by omega, by omega, by omega⟩, sizesF_of l _ _ (fun x hx => h x (List.mem_cons_of_mem _ hx)) (by omega) (by omega) (by omega) (by omega)]
    simp only [Option.some.injEq, Prod.mk.injEq]
    omega
theorem sizesOf_of {l : List Stp} (h : ∀ s ∈ l, stpOk s) (h1 : fromA (atomsOf l) ≤ 65536) (h2 : toA (atomsOf l) ≤ 65536) : sizesOf l = some ((fromA (atomsOf l) : Int), (toA (atomsOf l) : Int)) := by
  unfold sizesOf
  rw [sizesF_of l 0 0 h (by omega) (by omega) (by unfold maxT; omega) (by unfold maxT; omega)]
  simp
theorem sizes_list (L : List Atm) (h1 : fromA L ≤ 65536) (h2 : toA L ≤ 65536) : sizesOf (listOf L) = some ((fromA L : Int), (toA L : Int)) := by
  obtain ⟨e1, e2⟩ := list_sizes L
  rw [sizesOf_of (list_ok L).1 (by omega) (by omega), e1, e2]
theorem apply_list (L : List Atm) (s : List UInt8) : applyA s (atomsOf (listOf L)) = applyA s L := by rw [(list_ok L).2, apply_start]
/-- how many bytes a change makes of a text -/
theorem apply_len : ∀ (A : List Atm) (s t : List UInt8), applyA s A = some t → t.length = toA A
  | [], s, t, h => by rw [applyA_nil] at h; cases h; rfl
  | .p b :: A, s, t, h => by
    rw [applyA_p] at h
    obtain ⟨t', h', rfl⟩ := Option.map_eq_some_iff.1 h
    simp [toA, apply_len A s t' h']
  | .k :: A, [], t, h => by cases h
  | .k :: A, c :: s, t, h => by
    rw [applyA] at h
    obtain ⟨t', h', rfl⟩ := Option.map_eq_some_iff.1 h
    simp [toA, apply_len A s t' h']
  | .d b :: A, [], t, h => by cases h
  | .d b :: A, c :: s, t, h => by
    rw [applyA] at h
    split at h
    · simpa [toA] using apply_len A s t h
    · cases h
end Go.Eng

/-
  Plain facts on changes: how much composing and carrying make. No condition.
-/
namespace Go.Eng
open Go
theorem cmpT_list (A B : List Atm) : cmpT Bld.start A B = (compA A B).map listOf := rfl
theorem carT_list (A B : List Atm) : carT Bld.start Bld.start 0 A B = (carA A B).map fun o => (listOf o.1, listOf o.2, 0 + toA o.1) := rfl
/-- what a change that may be is of, in its one form -/
theorem nf_len {l : List Stp} {f t : Int} (h : sizesOf l = some (f, t)) : (nfOf (gapsOf l)).length ≤ 131072 ∧ (fromA (nfOf (gapsOf l)) : Int) = f ∧ (toA (nfOf (gapsOf l)) : Int) = t := by
  obtain ⟨h1, h2, h3, h4, h5⟩ := sizesOf_some h
  have hok : ∀ s ∈ l, stpOk s := fun s hs => (h1 s hs).1
  obtain ⟨n1, n2⟩ := nf_sizes l hok
  have := atoms_le (nfOf (gapsOf l))
  unfold maxT at h4 h5
  omega
end Go.Eng

/-
  Plain facts on changes: lists that builders make, applied. No condition.
-/
namespace Go.Eng
open Go
theorem mem_atoms {l : List Stp} {s : Stp} (h : s ∈ l) : s.atoms.length ≤ (atomsOf l).length := by
  obtain ⟨x, y, rfl⟩ := List.append_of_mem h
  rw [atoms_append, atoms_cons, List.length_append, List.length_append]; omega
theorem fit_list {L : List Atm} (h1 : fromA L ≤ 65536) (h2 : toA L ≤ 65536) : Fit (listOf L) := by
  obtain ⟨e1, e2⟩ := list_sizes L
  have hok := (list_ok L).1
  have ha := atoms_le (atomsOf (listOf L))
  have hl := steps_le (listOf L) hok
  refine ⟨by omega, fun s hs => ?_, fun s hs => ?_, fun s hs => ?_⟩
  all_goals
    have := mem_atoms hs
    have hb := stp_bounds (hok s hs)
    omega
def okV (t : List UInt8) : Value := .tuple #[str t, .int .i64 0]
theorem apply_cases (s : List UInt8) (l : List Stp) : (∃ e : Int, e ≠ 0 ∧ applyV s l = .tuple #[str [], .int .i64 e]) ∨ (∃ t tt, sizesOf l = some ((s.length : Int), tt) ∧ applyA s (atomsOf l) = some t ∧ applyV s l = okV t) := by
  unfold applyV
  cases hs : sizesOf l with
  | none => exact .inl ⟨2, by decide, rfl⟩
  | some ft =>
    obtain ⟨f, tt⟩ := ft
    simp only
    by_cases hf : f = s.length
    · subst hf
      simp only [ne_eq, not_true, if_false]
      cases ha : applyA s (atomsOf l) with
      | none => exact .inl ⟨270, by decide, rfl⟩
      | some t => exact .inr ⟨t, tt, rfl, rfl, rfl⟩
    · simp only [ne_eq, hf, not_false_eq_true, if_true]
      exact .inl ⟨5, by decide, rfl⟩
theorem apply_listV {L : List Atm} {s t : List UInt8} (h1 : fromA L = s.length) (h2 : applyA s L = some t) (h3 : fromA L ≤ 65536) (h4 : toA L ≤ 65536) : applyV s (listOf L) = okV t := by
  unfold applyV
  rw [sizes_list L h3 h4]
  simp only
  rw [if_neg (by omega), apply_list, h2]; rfl
end Go.Eng

/-
  The walks of package edit, a stream's methods: size, now, take. No condition.
-/
namespace Go.Eng
open Go Go.RowKit
theorem Does.gives_mem {P : Program} {w0 : World} {m : Mem} {H : SHeap} {f : FuncId} {args : Array Value} {v : Value} {i : Item} (hm : i ∈ H) (h : ∀ H1, Does P f args w0 m (i :: H1) (Gives v m (i :: H1))) : Does P f args w0 m H (Gives v m H) := by
  intro w hs
  obtain ⟨H1, hp⟩ := hs.at_ hm
  refine (h H1 w (hs.perm hp)).mono ?_
  rintro e w' ⟨v', m', H', he, ⟨rfl, rfl, rfl⟩, hs'⟩
  exact ⟨_, _, _, he, ⟨rfl, rfl, rfl⟩, hs'.perm hp.symm⟩
section
variable {P : Program} {ro : Option Nat} {n : Nat} {w0 : World} {Q : Exit → Act → World → Prop} {r : Env} {ds : List Nat} {m : Mem} {H : SHeap} {ops : Array Oper} {l : List Oper} {d : Nat} {t ty : TypeId} {pos : String} {after : Array Edge}
theorem WL.indexAddr0 {e : TypeId} {x y : Operand} {a : Addr} {j k cap sz : Nat} {ki : IntKind} (hx : r.ev x = some (.slice (some (a.add j)) k cap)) (hy : r.ev y = some (.int ki 0)) (hu : P.underlying t = some (.slice e)) (hsz : sizeB P e = some sz)
    (hi : 0 < k) (hd : Nat.blt d n = true) (h : WL P ro n w0 ops Q l ((d, .pointer (some (a.add j))) :: r) ds m H) :
    WL P ro n w0 ops Q (⟨some d, .indexAddr t x y, ty, pos, after, none⟩ :: l) r ds m H := by
  refine WL.indexAddr (i := 0) hx hy rfl hu hsz hi hd ?_
  rw [addadd, Nat.zero_mul, Nat.add_zero]
  exact h
end
/-- a stream: what is left of a change, in a list of its own -/
structure Strm (a1 : Option Addr) (c1 : Nat) (ar : Option Addr) (pre : List (List Value)) (X : List Stp) : Prop where
  at_ : X ≠ [] → ∃ a0, ar = some a0 ∧ a1 = some (a0.add (pre.length * 3))
  cap : X.length ≤ c1
  ok : ∀ s ∈ X, stpOk s
theorem Does.gives_out2 {P : Program} {w0 : World} {m : Mem} {H H1 H2 : SHeap} {i1 i2 : Item} {f : FuncId} {args : Array Value} {v : Value} (o1 : Out i1 H H1) (o2 : Out i2 H1 H2) (h : ∀ H', Does P f args w0 m (i1 :: i2 :: H') (Gives v m (i1 :: i2 :: H'))) : Does P f args w0 m H (Gives v m H) := by
  have hp : List.Perm H (i1 :: i2 :: H2) := o1.perm.trans (List.Perm.cons _ o2.perm)
  intro w hs
  refine (h H2 w (hs.perm hp)).mono ?_
  rintro e w' ⟨v', m', H', he, ⟨rfl, rfl, rfl⟩, hs'⟩
  exact ⟨_, _, _, he, ⟨rfl, rfl, rfl⟩, hs'.perm hp.symm⟩
end Go.Eng
namespace Go.Proofs.Ytelgegefmjlimaa
open Go Go.Eng
set_option maxRecDepth 100000
set_option maxHeartbeats 4000000
set_option linter.all false
attribute [local irreducible] WL WC WQ QFun QLoop Does Q1 QRound QAssign Go.Addr.add
theorem size_any {s : Stp} (hok : stpOk s) (hl : s.atoms.length ≤ 100000000000) (w0 : World) (m : Mem) (H : SHeap) :
    Does Try.prog 47 #[s.v] w0 m H (Gives (.int .i64 (s.atoms.length : Int)) m H) := by
  refine Does.of_body (args := [.agg #[.int .i64 s.k, str s.d, str s.p]]) Try.func47 rfl Try.ntmps47 rfl ?_
  have hl2 := atoms_len s
  have hk : 0 ≤ s.k := by rcases hok with ⟨h, _, _⟩ | ⟨h, _, _⟩ | ⟨h, _, _⟩ <;> omega
  (try (refine st ?_; intros))
  rw [show s.k + (s.d.length : Int) + (s.p.length : Int) = (s.atoms.length : Int) by omega]
  (try (refine st ?_; intros))
  exact q_fin0 (H0 := H) (Gives.mk rfl) (hd := zpk)
theorem sq_E14_1 {G : Prop} (h : G := by (repeat (first | (refine sp ?_; (repeat intro zzc)) | (refine WL.indexAddr0 rfl rfl rfl rfl (by simp) rfl ?_))); exact WQ.q1 rfl) : G := h
theorem st_E14_1 {G G' : Prop} (next : G') (h : Bx G' → G := by intro zzn; (first | ((refine st ?_; (repeat intro zzc)); (try ((first | (refine WL.indexAddr0 rfl rfl rfl rfl (by simp) rfl ?_) | ((refine iDraw ?_; (first | refine WC.drawAll rfl (by decide +kernel) ?_ | refine WC.draw 1 rfl (by decide +kernel) ?_ | refine WC.draw 2 rfl (by decide +kernel) ?_ | refine WC.draw 3 rfl (by decide +kernel) ?_ | refine WC.draw 4 rfl (by decide +kernel) ?_ | refine WC.draw 5 rfl (by decide +kernel) ?_ | refine WC.draw 6 rfl (by decide +kernel) ?_ | refine WC.draw 7 rfl (by decide +kernel) ?_ | refine WC.draw 8 rfl (by decide +kernel) ?_ | refine WC.draw 9 rfl (by decide +kernel) ?_ | refine WC.draw 10 rfl (by decide +kernel) ?_ | refine WC.draw 11 rfl (by decide +kernel) ?_ | refine WC.draw 12 rfl (by decide +kernel) ?_ | refine WC.draw 13 rfl (by decide +kernel) ?_ | refine WC.draw 14 rfl (by decide +kernel) ?_ | refine WC.draw 15 rfl (by decide +kernel) ?_ | refine WC.draw 16 rfl (by decide +kernel) ?_ | refine WC.draw 17 rfl (by decide +kernel) ?_ | refine WC.draw 18 rfl (by decide +kernel) ?_ | refine WC.draw 19 rfl (by decide +kernel) ?_ | refine WC.draw 20 rfl (by decide +kernel) ?_ | refine WC.draw 21 rfl (by decide +kernel) ?_ | refine WC.draw 22 rfl (by decide +kernel) ?_ | refine WC.draw 23 rfl (by decide +kernel) ?_ | refine WC.draw 24 rfl (by decide +kernel) ?_)); (repeat (refine WD.cons rfl (fun c h => by cases h) sq_E14_1 ?_)); refine WD.nil ?_)); (try (refine st ?_; (repeat intro zzc)))))) | ((first | (refine WL.indexAddr0 rfl rfl rfl rfl (by simp) rfl ?_) | ((refine iDraw ?_; (first | refine WC.drawAll rfl (by decide +kernel) ?_ | refine WC.draw 1 rfl (by decide +kernel) ?_ | refine WC.draw 2 rfl (by decide +kernel) ?_ | refine WC.draw 3 rfl (by decide +kernel) ?_ | refine WC.draw 4 rfl (by decide +kernel) ?_ | refine WC.draw 5 rfl (by decide +kernel) ?_ | refine WC.draw 6 rfl (by decide +kernel) ?_ | refine WC.draw 7 rfl (by decide +kernel) ?_ | refine WC.draw 8 rfl (by decide +kernel) ?_ | refine WC.draw 9 rfl (by decide +kernel) ?_ | refine WC.draw 10 rfl (by decide +kernel) ?_ | refine WC.draw 11 rfl (by decide +kernel) ?_ | refine WC.draw 12 rfl (by decide +kernel) ?_ | refine WC.draw 13 rfl (by decide +kernel) ?_ | refine WC.draw 14 rfl (by decide +kernel) ?_ | refine WC.draw 15 rfl (by decide +kernel) ?_ | refine WC.draw 16 rfl (by decide +kernel) ?_ | refine WC.draw 17 rfl (by decide +kernel) ?_ | refine WC.draw 18 rfl (by decide +kernel) ?_ | refine WC.draw 19 rfl (by decide +kernel) ?_ | refine WC.draw 20 rfl (by decide +kernel) ?_ | refine WC.draw 21 rfl (by decide +kernel) ?_ | refine WC.draw 22 rfl (by decide +kernel) ?_ | refine WC.draw 23 rfl (by decide +kernel) ?_ | refine WC.draw 24 rfl (by decide +kernel) ?_)); (repeat (refine WD.cons rfl (fun c h => by cases h) sq_E14_1 ?_)); refine WD.nil ?_)); (try (refine st ?_; (repeat intro zzc))))); (repeat ((first | (refine WL.indexAddr0 rfl rfl rfl rfl (by simp) rfl ?_) | ((refine iDraw ?_; (first | refine WC.drawAll rfl (by decide +kernel) ?_ | refine WC.draw 1 rfl (by decide +kernel) ?_ | refine WC.draw 2 rfl (by decide +kernel) ?_ | refine WC.draw 3 rfl (by decide +kernel) ?_ | refine WC.draw 4 rfl (by decide +kernel) ?_ | refine WC.draw 5 rfl (by decide +kernel) ?_ | refine WC.draw 6 rfl (by decide +kernel) ?_ | refine WC.draw 7 rfl (by decide +kernel) ?_ | refine WC.draw 8 rfl (by decide +kernel) ?_ | refine WC.draw 9 rfl (by decide +kernel) ?_ | refine WC.draw 10 rfl (by decide +kernel) ?_ | refine WC.draw 11 rfl (by decide +kernel) ?_ | refine WC.draw 12 rfl (by decide +kernel) ?_ | refine WC.draw 13 rfl (by decide +kernel) ?_ | refine WC.draw 14 rfl (by decide +kernel) ?_ | refine WC.draw 15 rfl (by decide +kernel) ?_ | refine WC.draw 16 rfl (by decide +kernel) ?_ | refine WC.draw 17 rfl (by decide +kernel) ?_ | refine WC.draw 18 rfl (by decide +kernel) ?_ | refine WC.draw 19 rfl (by decide +kernel) ?_ | refine WC.draw 20 rfl (by decide +kernel) ?_ | refine WC.draw 21 rfl (by decide +kernel) ?_ | refine WC.draw 22 rfl (by decide +kernel) ?_ | refine WC.draw 23 rfl (by decide +kernel) ?_ | refine WC.draw 24 rfl (by decide +kernel) ?_)); (repeat (refine WD.cons rfl (fun c h => by cases h) sq_E14_1 ?_)); refine WD.nil ?_)); (try (refine st ?_; (repeat intro zzc))))); (repeat revert zzc); exact zzn.out) : G := h ⟨next⟩
theorem now_front {a1 : Option Addr} {c1 x cr : Nat} {ar : Option Addr} {pre : List (List Value)} {s : Stp} {X : List Stp} (h : Strm a1 c1 ar pre (s :: X)) (w0 : World) (m : Mem) (H : SHeap) :
    Does Try.prog 44 #[.pointer (some ⟨x, 0, none⟩)] w0 m (.blk x (.cells [.slice a1 (s :: X).length c1].toArray 96 (0, 0)) :: .row ar cr 59 3 (pre ++ (s :: X).map Stp.cs) :: H) (Gives (.tuple #[s.v, .bool true]) m (.blk x (.cells [.slice a1 (s :: X).length c1].toArray 96 (0, 0)) :: .row ar cr 59 3 (pre ++ (s :: X).map Stp.cs) :: H)) := by
  refine Does.of_body (args := [.pointer (some ⟨x, 0, none⟩)]) Try.func44 rfl Try.ntmps44 rfl ?_
  obtain ⟨a0, rfl, rfl⟩ := h.at_ (by simp)
  have hget : (pre ++ (s :: X).map Stp.cs)[pre.length]? = some s.cs := by simp
  have hl0 : (s :: X).length = X.length + 1 := rfl
  generalize pre ++ (s :: X).map Stp.cs = E at *
  (try (refine st_E14_1 ?_; intros))
  exact q_fin0 (H0 := .blk x (.cells [.slice (some (a0.add (pre.length * 3))) (s :: X).length c1].toArray 96 (0, 0)) :: .row (some a0) cr 59 3 E :: H) (Gives.mk rfl) (hd := zpk)
theorem now_cons {a1 : Option Addr} {c1 x cr : Nat} {ar : Option Addr} {pre : List (List Value)} {s : Stp} {X : List Stp} (h : Strm a1 c1 ar pre (s :: X)) {w0 : World} {m : Mem} {H H1 H2 : SHeap}
    (o1 : Out (.blk x (.cells [.slice a1 (s :: X).length c1].toArray 96 (0, 0))) H H1) (o2 : Out (.row ar cr 59 3 (pre ++ (s :: X).map Stp.cs)) H1 H2) :
    Does Try.prog 44 #[.pointer (some ⟨x, 0, none⟩)] w0 m H (Gives (.tuple #[s.v, .bool true]) m H) := Does.gives_out2 o1 o2 fun _ => now_front h _ _ _
theorem now_nil {a1 : Option Addr} {c1 x k : Nat} (hk : k = 0) {w0 : World} {m : Mem} {H : SHeap} (hm : Item.blk x (.cells [.slice a1 k c1].toArray 96 (0, 0)) ∈ H) :
    Does Try.prog 44 #[.pointer (some ⟨x, 0, none⟩)] w0 m H (Gives (.tuple #[.agg #[.int .i64 0, str [], str []], .bool false]) m H) := by
  refine Does.gives_mem hm fun H => ?_
  refine Does.of_body (args := [.pointer (some ⟨x, 0, none⟩)]) Try.func44 rfl Try.ntmps44 rfl ?_
  (try (refine st_E14_1 ?_; intros))
  exact q_fin0 (H0 := .blk x (.cells [.slice a1 k c1].toArray 96 (0, 0)) :: H) (Gives.mk rfl) (hd := zpk)
/-- what a take leaves of the stream -/
def TakenS (x cr : Nat) (ar : Option Addr) (s : Stp) (n : Nat) (X : List Stp) (m : Mem) (H : SHeap) : Value → Mem → SHeap → Prop := fun v m' H' => v = (takeS s n).v ∧ m' = m ∧ ∃ a2 c2 pre2, Strm a2 c2 ar pre2 (restS s n X) ∧
  H' = .blk x (.cells [.slice a2 (restS s n X).length c2].toArray 96 (0, 0)) :: .row ar cr 59 3 (pre2 ++ (restS s n X).map Stp.cs) :: H
theorem sq_E14_2 {G : Prop} (h : G := by (repeat (first | (refine sp ?_; (repeat intro zzc)) | (refine WL.indexAddr0 rfl rfl rfl rfl (by simp) rfl ?_) | (refine iF 47 rfl ?_; refine w_callG Try.func47 ?_ (hs := size_any (by assumption) (by omega) _ _ _)))); exact WQ.q1 rfl) : G := h
theorem st_E14_2 {G G' : Prop} (next : G') (h : Bx G' → G := by intro zzn; (first | ((refine st ?_; (repeat intro zzc)); (try ((first | (refine WL.indexAddr0 rfl rfl rfl rfl (by simp) rfl ?_) | (refine iF 47 rfl ?_; refine w_callG Try.func47 ?_ (hs := size_any (by assumption) (by omega) _ _ _)) | ((refine iDraw ?_; (first | refine WC.drawAll rfl (by decide +kernel) ?_ | refine WC.draw 1 rfl (by decide +kernel) ?_ | refine WC.draw 2 rfl (by decide +kernel) ?_ | refine WC.draw 3 rfl (by decide +kernel) ?_ | refine WC.draw 4 rfl (by decide +kernel) ?_ | refine WC.draw 5 rfl (by decide +kernel) ?_ | refine WC.draw 6 rfl (by decide +kernel) ?_ | refine WC.draw 7 rfl (by decide +kernel) ?_ | refine WC.draw 8 rfl (by decide +kernel) ?_ | refine WC.draw 9 rfl (by decide +kernel) ?_ | refine WC.draw 10 rfl (by decide +kernel) ?_ | refine WC.draw 11 rfl (by decide +kernel) ?_ | refine WC.draw 12 rfl (by decide +kernel) ?_ | refine WC.draw 13 rfl (by decide +kernel) ?_ | refine WC.draw 14 rfl (by decide +kernel) ?_ | refine WC.draw 15 rfl (by decide +kernel) ?_ | refine WC.draw 16 rfl (by decide +kernel) ?_ | refine WC.draw 17 rfl (by decide +kernel) ?_ | refine WC.draw 18 rfl (by decide +kernel) ?_ | refine WC.draw 19 rfl (by decide +kernel) ?_ | refine WC.draw 20 rfl (by decide +kernel) ?_ | refine WC.draw 21 rfl (by decide +kernel) ?_ | refine WC.draw 22 rfl (by decide +kernel) ?_ | refine WC.draw 23 rfl (by decide +kernel) ?_ | refine WC.draw 24 rfl (by decide +kernel) ?_)); (repeat (refine WD.cons rfl (fun c h => by cases h) sq_E14_2 ?_)); refine WD.nil ?_)); (try (refine st ?_; (repeat intro zzc)))))) | ((first | (refine WL.indexAddr0 rfl rfl rfl rfl (by simp) rfl ?_) | (refine iF 47 rfl ?_; refine w_callG Try.func47 ?_ (hs := size_any (by assumption) (by omega) _ _ _)) | ((refine iDraw ?_; (first | refine WC.drawAll rfl (by decide +kernel) ?_ | refine WC.draw 1 rfl (by decide +kernel) ?_ | refine WC.draw 2 rfl (by decide +kernel) ?_ | refine WC.draw 3 rfl (by decide +kernel) ?_ | refine WC.draw 4 rfl (by decide +kernel) ?_ | refine WC.draw 5 rfl (by decide +kernel) ?_ | refine WC.draw 6 rfl (by decide +kernel) ?_ | refine WC.draw 7 rfl (by decide +kernel) ?_ | refine WC.draw 8 rfl (by decide +kernel) ?_ | refine WC.draw 9 rfl (by decide +kernel) ?_ | refine WC.draw 10 rfl (by decide +kernel) ?_ | refine WC.draw 11 rfl (by decide +kernel) ?_ | refine WC.draw 12 rfl (by decide +kernel) ?_ | refine WC.draw 13 rfl (by decide +kernel) ?_ | refine WC.draw 14 rfl (by decide +kernel) ?_ | refine WC.draw 15 rfl (by decide +kernel) ?_ | refine WC.draw 16 rfl (by decide +kernel) ?_ | refine WC.draw 17 rfl (by decide +kernel) ?_ | refine WC.draw 18 rfl (by decide +kernel) ?_ | refine WC.draw 19 rfl (by decide +kernel) ?_ | refine WC.draw 20 rfl (by decide +kernel) ?_ | refine WC.draw 21 rfl (by decide +kernel) ?_ | refine WC.draw 22 rfl (by decide +kernel) ?_ | refine WC.draw 23 rfl (by decide +kernel) ?_ | refine WC.draw 24 rfl (by decide +kernel) ?_)); (repeat (refine WD.cons rfl (fun c h => by cases h) sq_E14_2 ?_)); refine WD.nil ?_)); (try (refine st ?_; (repeat intro zzc))))); (repeat ((first | (refine WL.indexAddr0 rfl rfl rfl rfl (by simp) rfl ?_) | (refine iF 47 rfl ?_; refine w_callG Try.func47 ?_ (hs := size_any (by assumption) (by omega) _ _ _)) | ((refine iDraw ?_; (first | refine WC.drawAll rfl (by decide +kernel) ?_ | refine WC.draw 1 rfl (by decide +kernel) ?_ | refine WC.draw 2 rfl (by decide +kernel) ?_ | refine WC.draw 3 rfl (by decide +kernel) ?_ | refine WC.draw 4 rfl (by decide +kernel) ?_ | refine WC.draw 5 rfl (by decide +kernel) ?_ | refine WC.draw 6 rfl (by decide +kernel) ?_ | refine WC.draw 7 rfl (by decide +kernel) ?_ | refine WC.draw 8 rfl (by decide +kernel) ?_ | refine WC.draw 9 rfl (by decide +kernel) ?_ | refine WC.draw 10 rfl (by decide +kernel) ?_ | refine WC.draw 11 rfl (by decide +kernel) ?_ | refine WC.draw 12 rfl (by decide +kernel) ?_ | refine WC.draw 13 rfl (by decide +kernel) ?_ | refine WC.draw 14 rfl (by decide +kernel) ?_ | refine WC.draw 15 rfl (by decide +kernel) ?_ | refine WC.draw 16 rfl (by decide +kernel) ?_ | refine WC.draw 17 rfl (by decide +kernel) ?_ | refine WC.draw 18 rfl (by decide +kernel) ?_ | refine WC.draw 19 rfl (by decide +kernel) ?_ | refine WC.draw 20 rfl (by decide +kernel) ?_ | refine WC.draw 21 rfl (by decide +kernel) ?_ | refine WC.draw 22 rfl (by decide +kernel) ?_ | refine WC.draw 23 rfl (by decide +kernel) ?_ | refine WC.draw 24 rfl (by decide +kernel) ?_)); (repeat (refine WD.cons rfl (fun c h => by cases h) sq_E14_2 ?_)); refine WD.nil ?_)); (try (refine st ?_; (repeat intro zzc))))); (repeat revert zzc); exact zzn.out) : G := h ⟨next⟩
theorem take_any {a1 : Option Addr} {c1 x cr : Nat} {ar : Option Addr} {pre : List (List Value)} {s : Stp} {X : List Stp} (n : Nat) (h : Strm a1 c1 ar pre (s :: X)) (h0 : 0 < n) (hn : n ≤ s.atoms.length) (hl : s.atoms.length ≤ 100000000000) (w0 : World) (m : Mem) (H : SHeap) :
    Does Try.prog 46 #[.pointer (some ⟨x, 0, none⟩), .int .i64 (n : Int)] w0 m (.blk x (.cells [.slice a1 (s :: X).length c1].toArray 96 (0, 0)) :: .row ar cr 59 3 (pre ++ (s :: X).map Stp.cs) :: H) (TakenS x cr ar s n X m H) := by
  refine Does.of_body (args := [.pointer (some ⟨x, 0, none⟩), .int .i64 (n : Int)]) Try.func46 rfl Try.ntmps46 rfl ?_
  have hst := h
  have hsk := h.ok s List.mem_cons_self
  have hcap := h.cap
  obtain ⟨a0, rfl, rfl⟩ := h.at_ (by simp)
  have hget : (pre ++ (s :: X).map Stp.cs)[pre.length]? = some s.cs := by simp
  have hset : ∀ e, (pre ++ (s :: X).map Stp.cs).set pre.length e = pre ++ e :: X.map Stp.cs := fun e => by simp
  have hl0 : (s :: X).length = X.length + 1 := rfl
  obtain ⟨E, hE⟩ : ∃ E, pre ++ (s :: X).map Stp.cs = E := ⟨_, rfl⟩
  rw [hE] at hget hset ⊢
  by_cases he : n = s.atoms.length
  · have er : restS s n X = X := if_pos he
    have et : takeS s n = s := by rw [he, takeS_all hsk]
    (try (refine st_E14_2 ?_; intros))
    refine q_fin0 (H0 := .blk x (.cells [subSl (some (a0.add (pre.length * 3))) c1 1 (s :: X).length 3].toArray 96 (0, 0)) :: .row (some a0) cr 59 3 E :: H) ⟨by rw [et]; try rfl, rfl, (if c1 = 1 then some (a0.add (pre.length * 3)) else (some (a0.add (pre.length * 3))).map (·.add (1 * 3))), c1 - 1, pre ++ [s.cs], ⟨?_, ?_, ?_⟩, ?_⟩ (hd := zpk)
    · intro hne
      rw [er] at hne
      have : 0 < X.length := List.length_pos_iff.2 hne
      refine ⟨a0, rfl, ?_⟩
      rw [if_neg (by omega), Option.map_some, addadd, List.length_append, List.length_singleton]
      congr 2; omega
    · rw [er]; omega
    · rw [er]; exact fun y hy => h.ok y (List.mem_cons_of_mem _ hy)
    · rw [er, ← hE]; simp [subSl]
  · have er : restS s n X = dropS s n :: X := if_neg he
    have hrs := restS_ok h.ok hn
    have hnl : n < s.atoms.length := by omega
    have fin : ∀ e, e = (dropS s n).cs → ∀ v, v = (takeS s n).v → TakenS x cr (some a0) s n X m H v m (.blk x (.cells [.slice (some (a0.add (pre.length * 3))) (s :: X).length c1].toArray 96 (0, 0)) :: .row (some a0) cr 59 3 (E.set pre.length e) :: H) := by
      intro e hee v hv
      refine ⟨hv, rfl, some (a0.add (pre.length * 3)), c1, pre, ⟨fun _ => ⟨a0, rfl, rfl⟩, ?_, hrs.1⟩, ?_⟩
      · rw [er]; exact hcap
      · rw [hset, er, hee]; simp
    rcases step_kinds hsk with ⟨g1, g2, g3, ea⟩ | ⟨g1, g2, g3, ea⟩ | ⟨g1, g2, g3, ea⟩
    · have hkl : s.atoms.length = s.k.toNat := by rw [ea]; simp
      (try (refine st_E14_2 ?_; intros))
      exact q_fin0 (H0 := .blk x (.cells [.slice (some (a0.add (pre.length * 3))) (s :: X).length c1].toArray 96 (0, 0)) :: .row (some a0) cr 59 3 (E.set pre.length [.int .i64 (s.k - n), str s.d, str s.p]) :: H) (fin _ (by simp [dropS, g1, g2, g3, Stp.cs]) (.agg #[.int .i64 (n : Int), str [], str []]) (by simp [takeS, g1, Stp.v])) (hd := zpk)
    · have hkl : s.atoms.length = s.d.length := by rw [ea]; simp
      (try (refine st_E14_2 ?_; intros))
      exact q_fin0 (H0 := .blk x (.cells [.slice (some (a0.add (pre.length * 3))) (s :: X).length c1].toArray 96 (0, 0)) :: .row (some a0) cr 59 3 (E.set pre.length [.int .i64 s.k, str (s.d.drop n), str s.p]) :: H) (fin _ (by simp [dropS, g1, g2, g3, Stp.cs]) (.agg #[.int .i64 0, str (s.d.take n), str []]) (by simp [takeS, g1, g2, Stp.v])) (hd := zpk)
    · have hkl : s.atoms.length = s.p.length := by rw [ea]; simp
      (try (refine st_E14_2 ?_; intros))
      exact q_fin0 (H0 := .blk x (.cells [.slice (some (a0.add (pre.length * 3))) (s :: X).length c1].toArray 96 (0, 0)) :: .row (some a0) cr 59 3 (E.set pre.length [.int .i64 s.k, str s.d, str (s.p.drop n)]) :: H) (fin _ (by simp [dropS, g1, g2, Stp.cs]) (.agg #[.int .i64 0, str [], str (s.p.take n)]) (by simp [takeS, g1, g2, Stp.v])) (hd := zpk)
end Go.Proofs.Ytelgegefmjlimaa

/-
  The walks of what sheets' methods share: New, Clone, Revision, make. No condition.
-/
namespace Go.Eng
open Go Go.RowKit
section
variable {P : Program} {ro : Option Nat} {n : Nat} {w0 : World} {Q : Exit → Act → World → Prop} {r : Env} {ds : List Nat} {m : Mem} {H : SHeap}
theorem WC.rNone {c : Code} {sz : Nat} {es : List (List Value)} (hr : RowR w0 m H sz none es) (h : es = [] → WC P ro n w0 c Q r ds m H) : WC P ro n w0 c Q r ds m H := by
  intro tmps w ho hs
  exact h (hr w hs).2 tmps w ho hs
end
/-- a change that a sheet keeps -/
def sentV (hand : Int) (a : Option Addr) (k cap : Nat) (left : Bool) : List Value := [.int .i64 hand, .slice a k cap, .bool left]
theorem steps_okc (l : List Stp) : ∀ q ∈ l.map Stp.cs, q.all okCell = true := by
  intro q hq
  obtain ⟨x, _, rfl⟩ := List.mem_map.1 hq
  rfl
theorem steps_three (l : List Stp) : ∀ q ∈ l.map Stp.cs, q.length = 3 := by
  intro q hq
  obtain ⟨x, _, rfl⟩ := List.mem_map.1 hq
  rfl
end Go.Eng
namespace Go.Proofs.Ytelgegefmjlimaa
open Go Go.Eng
set_option maxRecDepth 100000
set_option maxHeartbeats 4000000
set_option linter.all false
attribute [local irreducible] WL WC WQ QFun QLoop Does Q1 QRound QAssign Go.Addr.add
attribute [local irreducible] sizesOf sizesF applyV listOf plainOf applyA
theorem new_any {s : List UInt8} (hs : s.length ≤ 65536) (w0 : World) (m : Mem) (H : SHeap) :
    Does Try.prog 30 #[str s] w0 m H (fun v m' H' => m' = m ∧ ∃ b, v = .tuple #[.pointer (some ⟨b, 0, none⟩), .int .i64 0] ∧ H' = .blk b (.cells [str s, str s, .slice none 0 0].toArray 131 (0, 0)) :: H) := by
  refine Does.of_body (args := [str s]) Try.func30 rfl Try.ntmps30 rfl ?_
  (refine st ?_; intros; rename_i b)
  exact q_fin0 (H0 := .blk b (.cells [str s, str s, .slice none 0 0].toArray 131 (0, 0)) :: H) ⟨rfl, b, rfl, rfl⟩ (hd := zpk)
theorem clone_any {a : Option Addr} {cap : Nat} {l : List Stp} (hl : l.length ≤ 3000000) (w0 : World) (m : Mem) (H : SHeap) (hr : RowR w0 m H 3 a (l.map Stp.cs)) :
    Does Try.prog 77 #[.slice a l.length cap] w0 m H (fun v m' H' => m' = m ∧ ∃ c cp, v = .slice c l.length cp ∧ H' = .row c cp 59 3 (l.map Stp.cs) :: H) := by
  refine Does.of_body (args := [.slice a l.length cap]) Try.func77 rfl Try.ntmps77 rfl ?_
  have hln : (l.map Stp.cs).length = l.length := by simp
  cases a with
  | none =>
    refine WC.rNone hr fun he => ?_
    have hl0 : l = [] := by cases l with
      | nil => rfl
      | cons x l => simp at he
    subst hl0
    refine WC.newRow (T := 59) (sz := 3) ?_
    (try (refine st ?_; intros))
    exact q_fin0 (H0 := .row none 0 59 3 [] :: H) ⟨rfl, none, 0, rfl, rfl⟩ (hd := zpk)
  | some a0 =>
    (try (refine st ?_; intros))
    refine WL.buildSlice0 (sz := 3) rfl rfl rfl ?_
    intro q
    (try (refine st ?_; intros))
    refine w_appendR (hr.more) (steps_okc l) (steps_three l) ?_
    intro c cp
    have e : ([] : List (List Value)).length + (l.map Stp.cs).length = l.length := by simp
    (try (refine st ?_; intros))
    rw [e, List.nil_append]
    exact q_fin0 (H0 := .row c cp 59 3 (l.map Stp.cs) :: H) ⟨rfl, c, cp, rfl, rfl⟩ (hd := zpk)
theorem revision_any {b : Nat} {s1 s2 : List UInt8} {ra : Option Addr} {k cra : Nat} (w0 : World) (m : Mem) (H : SHeap) (hm : Item.blk b (.cells [str s1, str s2, .slice ra k cra].toArray 131 (0, 0)) ∈ H) :
    Does Try.prog 34 #[.pointer (some ⟨b, 0, none⟩)] w0 m H (Gives (.int .i64 (k : Int)) m H) := by
  refine Does.gives_mem hm fun H => ?_
  refine Does.of_body (args := [.pointer (some ⟨b, 0, none⟩)]) Try.func34 rfl Try.ntmps34 rfl ?_
  (try (refine st ?_; intros))
  exact q_fin0 (H0 := .blk b (.cells [str s1, str s2, .slice ra k cra].toArray 131 (0, 0)) :: H) (Gives.mk rfl) (hd := zpk)
end Go.Proofs.Ytelgegefmjlimaa

/-
  What a function hands back that makes a change. No condition.
-/
namespace Go.Eng
open Go Go.RowKit
def ListP (T : TypeId) (r : Int ⊕ List Stp) (k : IntKind) (m : Mem) (H : SHeap) : Value → Mem → SHeap → Prop := fun v m' H' => m' = m ∧ match r with
  | .inl e => v = .tuple #[.slice none 0 0, .int k e] ∧ H' = H
  | .inr l => ∃ c cp, v = .tuple #[.slice c l.length cp, .int k 0] ∧ H' = .row c cp T 3 (l.map Stp.cs) :: H
end Go.Eng

/-
  The walk of the program's Compose: two changes, one behind the other. No condition.
-/
namespace Go.Eng
open Go Go.RowKit
def nowS : List Stp → Stp
  | [] => ⟨0, [], []⟩
  | s :: _ => s
/-- what two changes come to, one behind the other -/
def comP (a b : List Stp) : Int ⊕ List Stp := match sizesOf a, sizesOf b with
  | some (_, mid), some (from_, _) => if mid ≠ from_ then .inl 5 else match cmpT Bld.start (nfOf (gapsOf a)) (nfOf (gapsOf b)) with
    | none => .inl 270
    | some l => .inr l
  | _, _ => .inl 2
theorem Out.mem {i : Item} {H H' : SHeap} (h : Out i H H') : i ∈ H := h.perm.mem_iff.2 List.mem_cons_self
section
variable {P : Program} {ro : Option Nat} {n : Nat} {w0 : World} {Q : Exit → Act → World → Prop} {r : Env} {ds : List Nat} {m : Mem} {H : SHeap}
theorem WC.strm {c : Code} {a : Option Addr} {cap : Nat} {T : TypeId} {X : List Stp} (hm : Item.row a cap T 3 (X.map Stp.cs) ∈ H) (hok : ∀ s ∈ X, stpOk s) (h : Strm a cap a [] X → WC P ro n w0 c Q r ds m H) : WC P ro n w0 c Q r ds m H := by
  intro tmps w ho hs
  refine h ⟨fun hne => ?_, ?_, hok⟩ tmps w ho hs
  · obtain ⟨a0, rfl⟩ := RowR.some (RowR.row hm) hs (by rw [List.length_map]; exact List.length_pos_iff.2 hne)
    refine ⟨a0, rfl, ?_⟩
    simp [Go.Addr.add]
  · have := row_cap hs hm
    rwa [List.length_map] at this
end
end Go.Eng
namespace Go.Proofs.Ytelgegefmjlimaa
open Go Go.Eng
set_option maxRecDepth 100000
set_option maxHeartbeats 4000000
set_option linter.all false
attribute [local irreducible] WL WC WQ QFun QLoop Does Q1 QRound QAssign Go.Addr.add
attribute [local irreducible] sizesF sizesOf cmpT
theorem now_any {a1 : Option Addr} {c1 x cr : Nat} {ar : Option Addr} {pre : List (List Value)} {X : List Stp} (h : Strm a1 c1 ar pre X) {w0 : World} {m : Mem} {H H1 H2 : SHeap}
    (o1 : Out (.blk x (.cells [.slice a1 X.length c1].toArray 96 (0, 0))) H H1) (o2 : Out (.row ar cr 59 3 (pre ++ X.map Stp.cs)) H1 H2) :
    Does Try.prog 44 #[.pointer (some ⟨x, 0, none⟩)] w0 m H (Gives (.tuple #[.agg #[.int .i64 (nowS X).k, str (nowS X).d, str (nowS X).p], .bool (!X.isEmpty)]) m H) := by
  cases X with
  | nil => exact now_nil rfl o1.mem
  | cons s X => exact now_cons h o1 o2
theorem sq_E15_1 {G : Prop} (h : G := by (repeat (first | (refine sp ?_; (repeat intro zzc)) | (refine iF 40 rfl ?_; refine w_callG Try.func40 ?_ (hs := sizes_any (by assumption) _ _ _ (by assumption))) | (refine iF 47 rfl ?_; refine w_callG Try.func47 ?_ (hs := size_any (by assumption) (by omega) _ _ _)))); exact WQ.q1 rfl) : G := h
theorem st_E15_1 {G G' : Prop} (next : G') (h : Bx G' → G := by intro zzn; (first | ((refine st ?_; (repeat intro zzc)); (try ((first | (refine iF 40 rfl ?_; refine w_callG Try.func40 ?_ (hs := sizes_any (by assumption) _ _ _ (by assumption))) | (refine iF 47 rfl ?_; refine w_callG Try.func47 ?_ (hs := size_any (by assumption) (by omega) _ _ _)) | ((refine iDraw ?_; (first | refine WC.drawAll rfl (by decide +kernel) ?_ | refine WC.draw 1 rfl (by decide +kernel) ?_ | refine WC.draw 2 rfl (by decide +kernel) ?_ | refine WC.draw 3 rfl (by decide +kernel) ?_ | refine WC.draw 4 rfl (by decide +kernel) ?_ | refine WC.draw 5 rfl (by decide +kernel) ?_ | refine WC.draw 6 rfl (by decide +kernel) ?_ | refine WC.draw 7 rfl (by decide +kernel) ?_ | refine WC.draw 8 rfl (by decide +kernel) ?_ | refine WC.draw 9 rfl (by decide +kernel) ?_ | refine WC.draw 10 rfl (by decide +kernel) ?_ | refine WC.draw 11 rfl (by decide +kernel) ?_ | refine WC.draw 12 rfl (by decide +kernel) ?_ | refine WC.draw 13 rfl (by decide +kernel) ?_ | refine WC.draw 14 rfl (by decide +kernel) ?_ | refine WC.draw 15 rfl (by decide +kernel) ?_ | refine WC.draw 16 rfl (by decide +kernel) ?_ | refine WC.draw 17 rfl (by decide +kernel) ?_ | refine WC.draw 18 rfl (by decide +kernel) ?_ | refine WC.draw 19 rfl (by decide +kernel) ?_ | refine WC.draw 20 rfl (by decide +kernel) ?_ | refine WC.draw 21 rfl (by decide +kernel) ?_ | refine WC.draw 22 rfl (by decide +kernel) ?_ | refine WC.draw 23 rfl (by decide +kernel) ?_ | refine WC.draw 24 rfl (by decide +kernel) ?_)); (repeat (refine WD.cons rfl (fun c h => by cases h) sq_E15_1 ?_)); refine WD.nil ?_)); (try (refine st ?_; (repeat intro zzc)))))) | ((first | (refine iF 40 rfl ?_; refine w_callG Try.func40 ?_ (hs := sizes_any (by assumption) _ _ _ (by assumption))) | (refine iF 47 rfl ?_; refine w_callG Try.func47 ?_ (hs := size_any (by assumption) (by omega) _ _ _)) | ((refine iDraw ?_; (first | refine WC.drawAll rfl (by decide +kernel) ?_ | refine WC.draw 1 rfl (by decide +kernel) ?_ | refine WC.draw 2 rfl (by decide +kernel) ?_ | refine WC.draw 3 rfl (by decide +kernel) ?_ | refine WC.draw 4 rfl (by decide +kernel) ?_ | refine WC.draw 5 rfl (by decide +kernel) ?_ | refine WC.draw 6 rfl (by decide +kernel) ?_ | refine WC.draw 7 rfl (by decide +kernel) ?_ | refine WC.draw 8 rfl (by decide +kernel) ?_ | refine WC.draw 9 rfl (by decide +kernel) ?_ | refine WC.draw 10 rfl (by decide +kernel) ?_ | refine WC.draw 11 rfl (by decide +kernel) ?_ | refine WC.draw 12 rfl (by decide +kernel) ?_ | refine WC.draw 13 rfl (by decide +kernel) ?_ | refine WC.draw 14 rfl (by decide +kernel) ?_ | refine WC.draw 15 rfl (by decide +kernel) ?_ | refine WC.draw 16 rfl (by decide +kernel) ?_ | refine WC.draw 17 rfl (by decide +kernel) ?_ | refine WC.draw 18 rfl (by decide +kernel) ?_ | refine WC.draw 19 rfl (by decide +kernel) ?_ | refine WC.draw 20 rfl (by decide +kernel) ?_ | refine WC.draw 21 rfl (by decide +kernel) ?_ | refine WC.draw 22 rfl (by decide +kernel) ?_ | refine WC.draw 23 rfl (by decide +kernel) ?_ | refine WC.draw 24 rfl (by decide +kernel) ?_)); (repeat (refine WD.cons rfl (fun c h => by cases h) sq_E15_1 ?_)); refine WD.nil ?_)); (try (refine st ?_; (repeat intro zzc))))); (repeat ((first | (refine iF 40 rfl ?_; refine w_callG Try.func40 ?_ (hs := sizes_any (by assumption) _ _ _ (by assumption))) | (refine iF 47 rfl ?_; refine w_callG Try.func47 ?_ (hs := size_any (by assumption) (by omega) _ _ _)) | ((refine iDraw ?_; (first | refine WC.drawAll rfl (by decide +kernel) ?_ | refine WC.draw 1 rfl (by decide +kernel) ?_ | refine WC.draw 2 rfl (by decide +kernel) ?_ | refine WC.draw 3 rfl (by decide +kernel) ?_ | refine WC.draw 4 rfl (by decide +kernel) ?_ | refine WC.draw 5 rfl (by decide +kernel) ?_ | refine WC.draw 6 rfl (by decide +kernel) ?_ | refine WC.draw 7 rfl (by decide +kernel) ?_ | refine WC.draw 8 rfl (by decide +kernel) ?_ | refine WC.draw 9 rfl (by decide +kernel) ?_ | refine WC.draw 10 rfl (by decide +kernel) ?_ | refine WC.draw 11 rfl (by decide +kernel) ?_ | refine WC.draw 12 rfl (by decide +kernel) ?_ | refine WC.draw 13 rfl (by decide +kernel) ?_ | refine WC.draw 14 rfl (by decide +kernel) ?_ | refine WC.draw 15 rfl (by decide +kernel) ?_ | refine WC.draw 16 rfl (by decide +kernel) ?_ | refine WC.draw 17 rfl (by decide +kernel) ?_ | refine WC.draw 18 rfl (by decide +kernel) ?_ | refine WC.draw 19 rfl (by decide +kernel) ?_ | refine WC.draw 20 rfl (by decide +kernel) ?_ | refine WC.draw 21 rfl (by decide +kernel) ?_ | refine WC.draw 22 rfl (by decide +kernel) ?_ | refine WC.draw 23 rfl (by decide +kernel) ?_ | refine WC.draw 24 rfl (by decide +kernel) ?_)); (repeat (refine WD.cons rfl (fun c h => by cases h) sq_E15_1 ?_)); refine WD.nil ?_)); (try (refine st ?_; (repeat intro zzc))))); (repeat revert zzc); exact zzn.out) : G := h ⟨next⟩
theorem compose_any {pa pb : Option Addr} {ca cb : Nat} {a b : List Stp} (hfa : Fit a) (hfb : Fit b) (w0 : World) (m : Mem) (H : SHeap) (hra : RowR w0 m H 3 pa (a.map Stp.cs)) (hrb : RowR w0 m H 3 pb (b.map Stp.cs)) :
    Does Try.prog 17 #[.slice pa a.length ca, .slice pb b.length cb] w0 m H (ListP 59 (comP a b) .i64 m H) := by
  refine Does.of_body (args := [.slice pa a.length ca, .slice pb b.length cb]) Try.func17 rfl Try.ntmps17 rfl ?_
  cases hsa : sizesOf a with
  | none =>
    have e : comP a b = .inl 2 := by simp only [comP, hsa]
    have e2 : szP (sizesOf a) = .tuple #[.int .i64 0, .int .i64 0, .int .i64 2] := by rw [hsa]; rfl
    rw [e]
    (try (refine st_E15_1 ?_; intros))
    rw [e2]
    cases hsb : sizesOf b with
    | none =>
      have e3 : szP (sizesOf b) = .tuple #[.int .i64 0, .int .i64 0, .int .i64 2] := by rw [hsb]; rfl
      (try (refine st_E15_1 ?_; intros))
      rw [e3]
      (try (refine st_E15_1 ?_; intros))
      exact q_fin0 (H0 := H) ⟨rfl, rfl, rfl⟩ (hd := zpk)
    | some ft =>
      obtain ⟨f, t⟩ := ft
      have e3 : szP (sizesOf b) = .tuple #[.int .i64 f, .int .i64 t, .int .i64 0] := by rw [hsb]; rfl
      (try (refine st_E15_1 ?_; intros))
      rw [e3]
      (try (refine st_E15_1 ?_; intros))
      exact q_fin0 (H0 := H) ⟨rfl, rfl, rfl⟩ (hd := zpk)
  | some ft =>
    obtain ⟨fa, mid⟩ := ft
    have e2 : szP (sizesOf a) = .tuple #[.int .i64 fa, .int .i64 mid, .int .i64 0] := by rw [hsa]; rfl
    (try (refine st_E15_1 ?_; intros))
    rw [e2]
    cases hsb : sizesOf b with
    | none =>
      have e : comP a b = .inl 2 := by simp only [comP, hsa, hsb]
      have e3 : szP (sizesOf b) = .tuple #[.int .i64 0, .int .i64 0, .int .i64 2] := by rw [hsb]; rfl
      rw [e]
      (try (refine st_E15_1 ?_; intros))
      rw [e3]
      (try (refine st_E15_1 ?_; intros))
      exact q_fin0 (H0 := H) ⟨rfl, rfl, rfl⟩ (hd := zpk)
    | some ft =>
      obtain ⟨fb, tb⟩ := ft
      have e3 : szP (sizesOf b) = .tuple #[.int .i64 fb, .int .i64 tb, .int .i64 0] := by rw [hsb]; rfl
      (try (refine st_E15_1 ?_; intros))
      rw [e3]
      by_cases hmf : mid = fb
      · (try (refine st_E15_1 ?_; intros))
        obtain ⟨hoka, hal, hpla, hfra, htoa, _, _, _, _⟩ := sized hsa
        obtain ⟨hokb, hbl, hplb, hfrb, htob, _, _, _, _⟩ := sized hsb
        refine w_callF Try.func42 ?_ (hs := plain_any hoka (by omega) _ _ _ hra)
        rintro v m H1 ⟨rfl, arx, crx, rfl, rfl⟩
        (refine st_E15_1 ?_; intros; rename_i x)
        refine w_callF Try.func42 ?_ (hs := plain_any hokb (by omega) _ _ _ hrb.more.more)
        rintro v m H1 ⟨rfl, ary, cry, rfl, rfl⟩
        (refine st_E15_1 ?_; intros; rename_i y bo)
        refine WC.newRow (T := 59) (sz := 3) ?_
        refine WC.strm (a := arx) (cap := crx) (X := plainOf a) zhs (plain_ok a) fun hX0 => ?_
        refine WC.strm (a := ary) (cap := cry) (X := plainOf b) zhs (plain_ok b) fun hY0 => ?_
        refine WC.loopH [(12, .pointer (some ⟨x, 0, none⟩)), (13, .pointer (some ⟨y, 0, none⟩)), (14, .pointer (some ⟨bo, 0, none⟩))] ?_ ?_ (fun j r ds m' H' => ∃ (k : Nat) (c : Option Addr) (cp : Nat) (B : Bld) (ax : Option Addr) (cx : Nat) (prx : List (List Value)) (X : List Stp) (ay : Option Addr) (cy : Nat) (pry : List (List Value)) (Y : List Stp), j = (atomsOf X).length + (atomsOf Y).length ∧ r = [(12, .pointer (some ⟨x, 0, none⟩)), (13, .pointer (some ⟨y, 0, none⟩)), (14, .pointer (some ⟨bo, 0, none⟩))] ∧ ds = [] ∧ m = m' ∧ H' = .blk bo (.cells [.slice c B.l.length cp, str B.p, str B.d].toArray 98 (0, 0)) :: .row c cp 59 3 (B.l.map Stp.cs) :: .blk x (.cells [.slice ax X.length cx].toArray 96 (0, 0)) :: .row arx crx 59 3 (prx ++ X.map Stp.cs) :: .blk y (.cells [.slice ay Y.length cy].toArray 96 (0, 0)) :: .row ary cry 59 3 (pry ++ Y.map Stp.cs) :: H ∧ (Strm ax cx arx prx X) ∧ (Strm ay cy ary pry Y) ∧ (BFit k B) ∧ (k + 4 * ((atomsOf X).length + (atomsOf Y).length) ≤ 10000000) ∧ (cmpT B (atomsOf X) (atomsOf Y) = cmpT Bld.start (nfOf (gapsOf a)) (nfOf (gapsOf b)))) ((atomsOf (plainOf a)).length + (atomsOf (plainOf b)).length) ⟨0, none, 0, Bld.start, arx, crx, [], plainOf a, ary, cry, [], plainOf b, rfl, rfl, rfl, rfl, rfl, hX0, hY0, BFit.start, by omega, by rw [plain_atoms, plain_atoms]⟩ ?_
        · (repeat (first | exact Env.Sub.nil | refine Env.Sub.cons rfl ?_))
        · exact zpk
        rintro j r ds m' H' ⟨k, c, cp, B, ax, cx, prx, X, ay, cy, pry, Y, rfl, rfl, rfl, rfl, rfl, hX, hY, hB, hk, ht⟩
        (try (refine st_E15_1 ?_; intros))
        refine w_callF Try.func44 ?_ (hs := now_any hX (by (repeat (first | exact Out.here | apply Out.there))) (by (repeat (first | exact Out.here | apply Out.there))))
        rintro v m H1 ⟨rfl, rfl, rfl⟩
        (refine st_E15_1 ?_; intros; rename_i bs)
        refine w_callF Try.func44 ?_ (hs := now_any hY (by (repeat (first | exact Out.here | apply Out.there))) (by (repeat (first | exact Out.here | apply Out.there))))
        rintro v m H1 ⟨rfl, rfl, rfl⟩
        have hxok := hX.ok
        have hyok := hY.ok
        by_cases hc1 : (nowS Y).p = []
        · by_cases hc2 : (nowS X).d = []
          · have hfin : ∀ l, cmpT B (atomsOf X) (atomsOf Y) = some l → comP a b = .inr l := by
              intro l hl
              simp only [comP, hsa, hsb]
              rw [if_neg (fun h => h hmf), ← ht, hl]
            have hlen := hB.len
            have hpy : ∀ t Y', Y = t :: Y' → t.p = [] := by rintro t Y' rfl; exact hc1
            have hdx : ∀ s X', X = s :: X' → s.d = [] := by rintro s X' rfl; exact hc2
            rcases X with _ | ⟨s, X⟩
            · rw [hfin _ (stp_nilX hyok hpy)]
              have e1 : (!([] : List Stp).isEmpty) = false := rfl
              rw [e1]
              have hz : (!Y.isEmpty) = true ∨ (!Y.isEmpty) = false := by cases (!Y.isEmpty) <;> simp
              rcases hz with hz | hz
              all_goals
                rw [hz]
                (refine st_E15_1 ?_; intros; rename_i bt)
                refine WL.heap (H' := .blk bo (.cells [.slice c B.l.length cp, str B.p, str B.d].toArray 98 (0, 0)) :: .row c cp 59 3 (B.l.map Stp.cs) :: H) zpk ?_
                refine w_callF Try.func48 ?_ (hs := done_any B (by omega) _ _ _)
                rintro v m H1 ⟨rfl, c2, cp2, rfl, rfl⟩
                (try (refine st_E15_1 ?_; intros))
                exact q_fin0 (H0 := .row c2 cp2 59 3 (B.close.l.map Stp.cs) :: H) ⟨rfl, c2, cp2, rfl, rfl⟩ (hd := zpk)
            · have hsok := hxok s List.mem_cons_self
              have e1 : nowS (s :: X) = s := rfl
              have e2 : (!(s :: X).isEmpty) = true := rfl
              rw [e1] at hc2
              rw [e1, e2]
              have hbs := stp_bounds hsok
              have hap := atoms_pos hsok
              rcases Y with _ | ⟨t, Y⟩
              · rw [hfin _ (stp_nilY hxok hdx)]
                have e1 : (!([] : List Stp).isEmpty) = false := rfl
                rw [e1]
                (refine st_E15_1 ?_; intros; rename_i bt)
                refine WL.heap (H' := .blk bo (.cells [.slice c B.l.length cp, str B.p, str B.d].toArray 98 (0, 0)) :: .row c cp 59 3 (B.l.map Stp.cs) :: H) zpk ?_
                refine w_callF Try.func48 ?_ (hs := done_any B (by omega) _ _ _)
                rintro v m H1 ⟨rfl, c2, cp2, rfl, rfl⟩
                (try (refine st_E15_1 ?_; intros))
                exact q_fin0 (H0 := .row c2 cp2 59 3 (B.close.l.map Stp.cs) :: H) ⟨rfl, c2, cp2, rfl, rfl⟩ (hd := zpk)
              · have htok := hyok t List.mem_cons_self
                have e1 : nowS (t :: Y) = t := rfl
                have e2 : (!(t :: Y).isEmpty) = true := rfl
                rw [e1] at hc1
                rw [e1, e2]
                have hbt := stp_bounds htok
                have hap2 := atoms_pos htok
                have hlx0 : s.atoms.length ≤ (atomsOf (s :: X)).length := by rw [atoms_cons, List.length_append]; omega
                have hly0 : t.atoms.length ≤ (atomsOf (t :: Y)).length := by rw [atoms_cons, List.length_append]; omega
                (refine st_E15_1 ?_; intros; rename_i bt)
                have hn : ∃ n : Nat, min (s.atoms.length : Int) (t.atoms.length : Int) = (n : Int) ∧ 0 < n ∧ n ≤ s.atoms.length ∧ n ≤ t.atoms.length := ⟨min s.atoms.length t.atoms.length, by omega, by omega, by omega, by omega⟩
                obtain ⟨n, en, hn0, hns, hnt⟩ := hn
                rw [en]
                rw [stp_both hxok hyok hc2 hc1 hn0 hns hnt] at ht
                have hok1 := (takeS_ok hsok hn0 hns).1
                have hok2 := (takeS_ok htok hn0 hnt).1
                have hk1 := takeS_kind hsok hn0 hns
                have hk2 := takeS_kind htok hn0 hnt
                have hlx := (rest_len hxok hn0 hns).1
                have hly := (rest_len hyok hn0 hnt).1
                refine WL.heap (H' := .blk x (.cells [.slice ax (s :: X).length cx].toArray 96 (0, 0)) :: .row arx crx 59 3 (prx ++ (s :: X).map Stp.cs) :: .blk bt (.cells [.int .i64 t.k, str t.d, str t.p].toArray 59 (0, 0)) :: .blk bs (.cells [.int .i64 s.k, str s.d, str s.p].toArray 59 (0, 0)) :: .blk bo (.cells [.slice c B.l.length cp, str B.p, str B.d].toArray 98 (0, 0)) :: .row c cp 59 3 (B.l.map Stp.cs) :: .blk y (.cells [.slice ay (t :: Y).length cy].toArray 96 (0, 0)) :: .row ary cry 59 3 (pry ++ (t :: Y).map Stp.cs) :: H) zpk ?_
                refine w_callF Try.func46 ?_ (hs := take_any _ hX hn0 hns (by omega) _ _ _)
                rintro v m H1 ⟨rfl, rfl, ax2, cx2, prx2, hX2, rfl⟩
                (try (refine st_E15_1 ?_; intros))
                refine WL.heap (H' := .blk y (.cells [.slice ay (t :: Y).length cy].toArray 96 (0, 0)) :: .row ary cry 59 3 (pry ++ (t :: Y).map Stp.cs) :: .blk bt (.cells [.int .i64 t.k, str t.d, str t.p].toArray 59 (0, 0)) :: .blk bs (.cells [.int .i64 s.k, str s.d, str s.p].toArray 59 (0, 0)) :: .blk bo (.cells [.slice c B.l.length cp, str B.p, str B.d].toArray 98 (0, 0)) :: .row c cp 59 3 (B.l.map Stp.cs) :: .blk x (.cells [.slice ax2 (restS s n X).length cx2].toArray 96 (0, 0)) :: .row arx crx 59 3 (prx2 ++ (restS s n X).map Stp.cs) :: H) zpk ?_
                refine w_callF Try.func46 ?_ (hs := take_any _ hY hn0 hnt (by omega) _ _ _)
                rintro v m H1 ⟨rfl, rfl, ay2, cy2, pry2, hY2, rfl⟩
                generalize takeS s n = S1 at *
                generalize takeS t n = T1 at *
                have hb1 := stp_bounds hok1
                have hb2 := stp_bounds hok2
                rw [show S1.v = .agg #[.int .i64 S1.k, str S1.d, str S1.p] from rfl, show T1.v = .agg #[.int .i64 T1.k, str T1.d, str T1.p] from rfl]
                by_cases g1 : 0 < S1.k
                · rw [if_pos g1] at ht
                  (try (refine st_E15_1 ?_; intros))
                  refine WL.heap (H' := .blk bo (.cells [.slice c B.l.length cp, str B.p, str B.d].toArray 98 (0, 0)) :: .row c cp 59 3 (B.l.map Stp.cs) :: .blk x (.cells [.slice ax2 (restS s n X).length cx2].toArray 96 (0, 0)) :: .row arx crx 59 3 (prx2 ++ (restS s n X).map Stp.cs) :: .blk y (.cells [.slice ay2 (restS t n Y).length cy2].toArray 96 (0, 0)) :: .row ary cry 59 3 (pry2 ++ (restS t n Y).map Stp.cs) :: H) zpk ?_
                  refine w_callF Try.func45 ?_ (hs := step_any B T1 (by omega) (by omega) (by omega) (hB.mono (by omega)) _ _ _)
                  rintro v m H1 ⟨rfl, rfl, c2, cp2, rfl⟩
                  (try (refine st_E15_1 ?_; intros))
                  refine WQ.next ((atomsOf (restS s n X)).length + (atomsOf (restS t n Y)).length) ⟨k + 4 * T1.atoms.length, c2, cp2, B.step T1, ax2, cx2, prx2, restS s n X, ay2, cy2, pry2, restS t n Y, rfl, rfl, rfl, rfl, rfl, ?_, ?_, ?_, ?_, ?_⟩ (by omega) zsb zpk
                  · exact hX2
                  · exact hY2
                  · exact bfit_step hB hok2
                  · omega
                  · exact ht
                · rw [if_neg g1] at ht
                  by_cases g2 : 0 < T1.k
                  · rw [if_pos g2] at ht
                    (try (refine st_E15_1 ?_; intros))
                    refine WL.heap (H' := .blk bo (.cells [.slice c B.l.length cp, str B.p, str B.d].toArray 98 (0, 0)) :: .row c cp 59 3 (B.l.map Stp.cs) :: .blk x (.cells [.slice ax2 (restS s n X).length cx2].toArray 96 (0, 0)) :: .row arx crx 59 3 (prx2 ++ (restS s n X).map Stp.cs) :: .blk y (.cells [.slice ay2 (restS t n Y).length cy2].toArray 96 (0, 0)) :: .row ary cry 59 3 (pry2 ++ (restS t n Y).map Stp.cs) :: H) zpk ?_
                    refine w_callF Try.func45 ?_ (hs := step_any B S1 (by omega) (by omega) (by omega) (hB.mono (by omega)) _ _ _)
                    rintro v m H1 ⟨rfl, rfl, c2, cp2, rfl⟩
                    (try (refine st_E15_1 ?_; intros))
                    refine WQ.next ((atomsOf (restS s n X)).length + (atomsOf (restS t n Y)).length) ⟨k + 4 * S1.atoms.length, c2, cp2, B.step S1, ax2, cx2, prx2, restS s n X, ay2, cy2, pry2, restS t n Y, rfl, rfl, rfl, rfl, rfl, ?_, ?_, ?_, ?_, ?_⟩ (by omega) zsb zpk
                    · exact hX2
                    · exact hY2
                    · exact bfit_step hB hok1
                    · omega
                    · exact ht
                  · rw [if_neg g2] at ht
                    by_cases g3 : S1.p = T1.d
                    · rw [if_pos g3] at ht
                      (try (refine st_E15_1 ?_; intros))
                      refine WQ.next ((atomsOf (restS s n X)).length + (atomsOf (restS t n Y)).length) ⟨k, c, cp, B, ax2, cx2, prx2, restS s n X, ay2, cy2, pry2, restS t n Y, rfl, rfl, rfl, rfl, rfl, ?_, ?_, ?_, ?_, ?_⟩ (by omega) zsb zpk
                      · exact hX2
                      · exact hY2
                      · exact hB
                      · omega
                      · exact ht
                    · rw [if_neg g3] at ht
                      have e : comP a b = .inl 270 := by
                        simp only [comP, hsa, hsb]
                        rw [if_neg (fun h => h hmf), ← ht]
                      rw [e]
                      (try (refine st_E15_1 ?_; intros))
                      exact q_fin0 (H0 := H) ⟨rfl, rfl, rfl⟩ (hd := zpk)
          · rcases X with _ | ⟨s, X⟩
            · exact absurd rfl hc2
            · have hsok := hxok s List.mem_cons_self
              have e1 : nowS (s :: X) = s := rfl
              have e2 : (!(s :: X).isEmpty) = true := rfl
              rw [e1] at hc2
              rw [e1, e2]
              have hl := rest_len hxok (atoms_pos hsok) (Nat.le_refl _)
              rw [restS_all, takeS_all hsok] at hl
              have hbs := stp_bounds hsok
              have hap := atoms_pos hsok
              have hpy : ∀ t Y', Y = t :: Y' → t.p = [] := by rintro t Y' rfl; exact hc1
              have hz : (!Y.isEmpty) = true ∨ (!Y.isEmpty) = false := by cases (!Y.isEmpty) <;> simp
              rcases hz with hz | hz
              all_goals
                rw [hz]
                (refine st_E15_1 ?_; intros; rename_i bt)
                refine WL.heap (H' := .blk x (.cells [.slice ax (s :: X).length cx].toArray 96 (0, 0)) :: .row arx crx 59 3 (prx ++ (s :: X).map Stp.cs) :: .blk bo (.cells [.slice c B.l.length cp, str B.p, str B.d].toArray 98 (0, 0)) :: .row c cp 59 3 (B.l.map Stp.cs) :: .blk y (.cells [.slice ay Y.length cy].toArray 96 (0, 0)) :: .row ary cry 59 3 (pry ++ Y.map Stp.cs) :: H) zpk ?_
                refine w_callF Try.func46 ?_ (hs := take_any _ hX (atoms_pos hsok) (Nat.le_refl _) (by omega) _ _ _)
                rintro v m H1 ⟨rfl, rfl, ax2, cx2, prx2, hX2, rfl⟩
                rw [restS_all] at hX2 ⊢
                rw [takeS_all hsok]
                (try (refine st_E15_1 ?_; intros))
                refine WL.heap (H' := .blk bo (.cells [.slice c B.l.length cp, str B.p, str B.d].toArray 98 (0, 0)) :: .row c cp 59 3 (B.l.map Stp.cs) :: .blk x (.cells [.slice ax2 X.length cx2].toArray 96 (0, 0)) :: .row arx crx 59 3 (prx2 ++ X.map Stp.cs) :: .blk y (.cells [.slice ay Y.length cy].toArray 96 (0, 0)) :: .row ary cry 59 3 (pry ++ Y.map Stp.cs) :: H) zpk ?_
                refine w_callF Try.func45 ?_ (hs := step_any B s (by omega) (by omega) (by omega) (hB.mono (by omega)) _ _ _)
                rintro v m H1 ⟨rfl, rfl, c2, cp2, rfl⟩
                (try (refine st_E15_1 ?_; intros))
                refine WQ.next ((atomsOf (X)).length + (atomsOf (Y)).length) ⟨k + 4 * s.atoms.length, c2, cp2, B.step s, ax2, cx2, prx2, X, ay, cy, pry, Y, rfl, rfl, rfl, rfl, rfl, ?_, ?_, ?_, ?_, ?_⟩ (by omega) zsb zpk
                · exact hX2
                · exact hY
                · exact bfit_step hB hsok
                · omega
                · rw [← ht, stp_drop hsok hc2 hyok hpy]
        · rcases Y with _ | ⟨t, Y⟩
          · exact absurd rfl hc1
          · have htok := hyok t List.mem_cons_self
            have e1 : nowS (t :: Y) = t := rfl
            have e2 : (!(t :: Y).isEmpty) = true := rfl
            rw [e1] at hc1
            rw [e1, e2]
            have hl := rest_len hyok (atoms_pos htok) (Nat.le_refl _)
            rw [restS_all, takeS_all htok] at hl
            have hbt := stp_bounds htok
            have hap := atoms_pos htok
            (refine st_E15_1 ?_; intros; rename_i bt)
            refine WL.heap (H' := .blk y (.cells [.slice ay (t :: Y).length cy].toArray 96 (0, 0)) :: .row ary cry 59 3 (pry ++ (t :: Y).map Stp.cs) :: .blk bo (.cells [.slice c B.l.length cp, str B.p, str B.d].toArray 98 (0, 0)) :: .row c cp 59 3 (B.l.map Stp.cs) :: .blk x (.cells [.slice ax X.length cx].toArray 96 (0, 0)) :: .row arx crx 59 3 (prx ++ X.map Stp.cs) :: H) zpk ?_
            refine w_callF Try.func46 ?_ (hs := take_any _ hY (atoms_pos htok) (Nat.le_refl _) (by omega) _ _ _)
            rintro v m H1 ⟨rfl, rfl, ay2, cy2, pry2, hY2, rfl⟩
            rw [restS_all] at hY2 ⊢
            rw [takeS_all htok]
            (try (refine st_E15_1 ?_; intros))
            refine WL.heap (H' := .blk bo (.cells [.slice c B.l.length cp, str B.p, str B.d].toArray 98 (0, 0)) :: .row c cp 59 3 (B.l.map Stp.cs) :: .blk y (.cells [.slice ay2 Y.length cy2].toArray 96 (0, 0)) :: .row ary cry 59 3 (pry2 ++ Y.map Stp.cs) :: .blk x (.cells [.slice ax X.length cx].toArray 96 (0, 0)) :: .row arx crx 59 3 (prx ++ X.map Stp.cs) :: H) zpk ?_
            refine w_callF Try.func45 ?_ (hs := step_any B t (by omega) (by omega) (by omega) (hB.mono (by omega)) _ _ _)
            rintro v m H1 ⟨rfl, rfl, c2, cp2, rfl⟩
            (try (refine st_E15_1 ?_; intros))
            refine WQ.next ((atomsOf (X)).length + (atomsOf (Y)).length) ⟨k + 4 * t.atoms.length, c2, cp2, B.step t, ax, cx, prx, X, ay2, cy2, pry2, Y, rfl, rfl, rfl, rfl, rfl, ?_, ?_, ?_, ?_, ?_⟩ (by omega) zsb zpk
            · exact hX
            · exact hY2
            · exact bfit_step hB htok
            · omega
            · rw [← ht, stp_put htok hc1]
      · have e : comP a b = .inl 5 := by simp only [comP, hsa, hsb]; rw [if_pos hmf]
        rw [e]
        (try (refine st_E15_1 ?_; intros))
        exact q_fin0 (H0 := H) ⟨rfl, rfl, rfl⟩ (hd := zpk)
end Go.Proofs.Ytelgegefmjlimaa

