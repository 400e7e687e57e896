/-
  Parts of a walk, joined: D28 EngMD D18 DT8 D19 D21 DR1 DR2 DR3 C3 D22 DT11. No condition.
-/
import Derived.Test.YtieangfnjflfmaaP8
import Derived.Test.YtieangfnjflfmaaP6
import Derived.Test.YtieangfnjflfmaaP5
import Derived.Test.YtieangfnjflfmaaP7
import Derived.Test.YtieangfnjflfmaaP4
import Derived.Test.YtieangfnjflfmaaP2
import Derived.Test.YtieangfnjflfmaaProg
set_option linter.all false
/-
  The walk of the reference's Match: its loops. No condition.
-/
namespace Go.Eng
open Go Go.RowKit
theorem midL_shift : ∀ (a b : List Tx) (i k x y : Nat), midL a b (x + i) (y + k) = (midL a b i k).map fun p => (x + p.1, y + p.2)
  | [], b, i, k, x, y => by simp [midL]
  | u :: us, b, i, k, x, y => by
    rw [midL, midL]
    cases firstJ u us (lcs (u :: us) b) b with
    | none =>
      have := midL_shift us b (i + 1) k x y
      simpa only [Nat.add_assoc] using this
    | some j =>
      have := midL_shift us (b.drop (j + 1)) (i + 1) (k + j + 1) x y
      simp only [Nat.add_assoc] at this
      simp only [List.map_cons, Nat.add_assoc]
      rw [this]
theorem PrOk.mem {a b : List Tx} : ∀ {l : List (Nat × Nat)} {i k n m : Nat}, PrOk a b i k l n m → ∀ p ∈ l, p.1 < n ∧ p.2 < m
  | [], _, _, _, _, _, p, hp => by cases hp
  | q :: l, i, k, n, m, ⟨_, _, h3, h4, _, h6⟩, p, hp => by
    rcases List.mem_cons.1 hp with rfl | hp
    · exact ⟨h3, h4⟩
    · exact PrOk.mem h6 p hp
/-- pairs from the end -/
def tailP (a b t : Nat) : List (Nat × Nat) := (List.range t).map fun i => (a - 1 - i, b - 1 - i)
theorem tailP_length (a b t : Nat) : (tailP a b t).length = t := by simp [tailP]
theorem tailP_succ (a b t : Nat) : tailP a b (t + 1) = tailP a b t ++ [(a - 1 - t, b - 1 - t)] := by
  unfold tailP; rw [List.range_succ, List.map_append]; rfl
theorem tailP_get {a b t i : Nat} (h : i < t) : (tailP a b t)[i]? = some (a - 1 - i, b - 1 - i) := by
  unfold tailP; rw [List.getElem?_map, List.getElem?_range h]; rfl
end Go.Eng
namespace Go.Proofs.Ytieangfnjflfmaa
open Go Go.Eng
set_option maxRecDepth 100000
set_option maxHeartbeats 4000000
set_option linter.all false
attribute [local irreducible] WL WC WQ QFun QLoop Does Q1 QRound QAssign Go.Addr.add
attribute [local irreducible] midL strs headN mid diagL tailP
theorem rm_head {A B : List Tx} {aa ab : Option Addr} {ca cb : Nat} {w0 : World} {m : Mem} {H : SHeap} {Q : Exit → Act → World → Prop} (hA : A.length ≤ 4194304) (hB : B.length ≤ 4194304) (ha : RowR w0 m H 1 aa (strs A)) (hb : RowR w0 m H 1 ab (strs B))
    (hK : ∀ a cp, WQ 138 w0 Q (.exit 0) [(10, .int .i64 (headN A B : Int)), (9, .int .i64 (headN A B : Int)), (8, .slice none 0 0), (7, .slice a (headN A B) cp), (5, .slice aa A.length ca), (6, .slice ab B.length cb)] [] m (.row a cp 44 2 ((diagL 0 0 (headN A B)).map prE) :: H)) :
    WC Try.prog none 138 w0 ((loopsIn (Try.f15.body.getD .skip)).getD 0 .skip) Q [(10, .int .i64 0), (9, .int .i64 0), (8, .slice none 0 0), (7, .slice none 0 0), (5, .slice aa A.length ca), (6, .slice ab B.length cb)] [] m H := by
  have hal : (strs A).length = A.length := by simp [strs]
  have hbl : (strs B).length = B.length := by simp [strs]
  refine WC.newRow (T := 44) (sz := 2) ?_
  rw [show ([] : List (List Value)) = (diagL 0 0 0).map prE from by unfold diagL; rfl]
  refine WC.loopH [(10, .int .i64 ((0) : Int)), (9, .int .i64 ((0) : Int)), (8, .slice none 0 0), (7, .slice (none) (0) (0)), (5, .slice aa A.length ca), (6, .slice ab B.length cb)] ?_ ?_ (fun j r ds m' H' => ∃ (h : Nat) (a : Option Addr) (cp : Nat), j = A.length - h ∧ r = [(10, .int .i64 (h : Int)), (9, .int .i64 (h : Int)), (8, .slice none 0 0), (7, .slice a h cp), (5, .slice aa A.length ca), (6, .slice ab B.length cb)] ∧ ds = [] ∧ m = m' ∧ H' = .row a cp 44 2 ((diagL 0 0 h).map prE) :: H ∧ (h ≤ A.length ∧ h ≤ B.length) ∧ (headN A B = h + headN (A.drop h) (B.drop h))) (A.length - (0)) ⟨0, none, 0, rfl, rfl, rfl, rfl, rfl, ⟨by omega, by omega⟩, by simp⟩ ?_
  · (repeat (first | exact Env.Sub.nil | refine Env.Sub.cons rfl ?_))
  · exact zpk
  rintro j r ds m' H' ⟨h, a, cp, rfl, rfl, rfl, rfl, rfl, hh, hN⟩
  by_cases hlt : h < A.length ∧ h < B.length
  · obtain ⟨hlA, hlB⟩ := hlt
    obtain ⟨x, hx⟩ : ∃ x, A[h]? = some x := ⟨_, List.getElem?_eq_getElem hlA⟩
    obtain ⟨y, hy⟩ : ∃ y, B[h]? = some y := ⟨_, List.getElem?_eq_getElem hlB⟩
    have hgx := strs_get hx
    have hgy := strs_get hy
    have hst := headN_step hx hy
    have hdl : ((diagL 0 0 h).map prE).length = h := by rw [List.length_map, diagL_length]
    have hds : (diagL 0 0 (h + 1)).map prE = (diagL 0 0 h).map prE ++ [[.int .i64 (h : Int), .int .i64 (h : Int)]] := by rw [diagL_succ, List.map_append]; simp [prE]
    generalize hLE : (diagL 0 0 h).map prE = LE at *
    have ha' : RowR w0 m (.row a cp 44 2 LE :: H) 1 aa (strs A) := ha.more
    have hb' : RowR w0 m (.row a cp 44 2 LE :: H) 1 ab (strs B) := hb.more
    generalize hSA : strs A = SA at *
    generalize hSB : strs B = SB at *
    refine WC.rSome ha' (by omega) ?_
    rintro a0 rfl
    refine WC.rSome hb' (by omega) ?_
    rintro b0 rfl
    by_cases hxy : x = y
    · rw [if_pos hxy] at hst
      (refine st ?_; intros; rename_i b9 a2 cp2)
      rw [hdl, ← hds]
      refine WQ.next (A.length - (h + 1)) ⟨h + 1, a2, cp2, rfl, rfl, rfl, rfl, rfl, ?_, ?_⟩ (by omega) zsb zpk
      · exact ⟨by omega, by omega⟩
      · omega
    · rw [if_neg hxy] at hst
      rw [show headN A B = h by omega, hLE] at hK
      have hfin := hK a cp
      (try (refine st ?_; intros))
      exact WQ.weak zsb zpk hfin
  · have hst := headN_nil (A := A) (B := B) (h := h) (by omega)
    have hl2 : ¬ h < A.length ∨ h < A.length ∧ ¬ h < B.length := by omega
    rw [show headN A B = h by omega] at hK
    have hfin := hK a cp
    rcases hl2 with hl2 | ⟨hl2, hl3⟩
    · (try (refine st ?_; intros))
      exact WQ.weak zsb zpk hfin
    · (try (refine st ?_; intros))
      exact WQ.weak zsb zpk hfin
theorem rm_tail {A B : List Tx} {aa ab oa : Option Addr} {ca cb oc h : Nat} {w0 : World} {m : Mem} {H : SHeap} {Q : Exit → Act → World → Prop} (hA : A.length ≤ 4194304) (hB : B.length ≤ 4194304) (hh : h ≤ A.length ∧ h ≤ B.length) (ha : RowR w0 m H 1 aa (strs A)) (hb : RowR w0 m H 1 ab (strs B))
    (hK : ∀ t n q a cp, t = headN ((A.drop h).reverse) ((B.drop h).reverse) → n + t = A.length → q + t = B.length → WQ 138 w0 Q (.exit 2) [(12, .int .i64 (q : Int)), (11, .int .i64 (n : Int)), (10, .int .i64 (h : Int)), (9, .int .i64 (h : Int)), (8, .slice a t cp), (7, .slice oa h oc), (5, .slice aa A.length ca), (6, .slice ab B.length cb)] [] m (.row a cp 44 2 ((tailP A.length B.length t).map prE) :: H)) :
    WC Try.prog none 138 w0 ((loopsIn (Try.f15.body.getD .skip)).getD 1 .skip) Q [(12, .int .i64 (B.length : Int)), (11, .int .i64 (A.length : Int)), (10, .int .i64 (h : Int)), (9, .int .i64 (h : Int)), (8, .slice none 0 0), (7, .slice oa h oc), (5, .slice aa A.length ca), (6, .slice ab B.length cb)] [] m H := by
  have hal : (strs A).length = A.length := by simp [strs]
  have hbl : (strs B).length = B.length := by simp [strs]
  obtain ⟨RA, hRA⟩ : ∃ RA, RA = (A.drop h).reverse := ⟨_, rfl⟩
  obtain ⟨RB, hRB⟩ : ∃ RB, RB = (B.drop h).reverse := ⟨_, rfl⟩
  have hRAl : RA.length = A.length - h := by rw [hRA]; simp
  have hRBl : RB.length = B.length - h := by rw [hRB]; simp
  have hga : ∀ t n x, n + t = A.length → h < n → RA[t]? = some x → (strs A)[n - 1]? = some [str x] := fun t n x hn ht hx => by
    rw [hRA, rev_get (by omega)] at hx
    rw [show n - 1 = A.length - 1 - t by omega]
    exact strs_get hx
  have hgb : ∀ t n x, n + t = B.length → h < n → RB[t]? = some x → (strs B)[n - 1]? = some [str x] := fun t n x hn ht hx => by
    rw [hRB, rev_get (by omega)] at hx
    rw [show n - 1 = B.length - 1 - t by omega]
    exact strs_get hx
  rw [← hRA, ← hRB] at hK
  clear hRA hRB
  refine WC.newRow (T := 44) (sz := 2) ?_
  rw [show ([] : List (List Value)) = (tailP A.length B.length 0).map prE from by unfold tailP; rfl]
  refine WC.loopH [(12, .int .i64 ((B.length) : Int)), (11, .int .i64 ((A.length) : Int)), (10, .int .i64 (h : Int)), (9, .int .i64 (h : Int)), (8, .slice (none) (0) (0)), (7, .slice oa h oc), (5, .slice aa A.length ca), (6, .slice ab B.length cb)] ?_ ?_ (fun j r ds m' H' => ∃ (t : Nat) (n : Nat) (q : Nat) (a : Option Addr) (cp : Nat), j = 2 * n ∧ r = [(12, .int .i64 (q : Int)), (11, .int .i64 (n : Int)), (10, .int .i64 (h : Int)), (9, .int .i64 (h : Int)), (8, .slice a t cp), (7, .slice oa h oc), (5, .slice aa A.length ca), (6, .slice ab B.length cb)] ∧ ds = [] ∧ m = m' ∧ H' = .row a cp 44 2 ((tailP A.length B.length t).map prE) :: H ∧ (n + t = A.length) ∧ (q + t = B.length) ∧ (h ≤ n ∧ h ≤ q) ∧ (headN RA RB = t + headN (RA.drop t) (RB.drop t))) (2 * (A.length)) ⟨0, A.length, B.length, none, 0, rfl, rfl, rfl, rfl, rfl, by omega, by omega, ⟨by omega, by omega⟩, by simp⟩ ?_
  · (repeat (first | exact Env.Sub.nil | refine Env.Sub.cons rfl ?_))
  · exact zpk
  rintro j r ds m' H' ⟨t, n, q, a, cp, rfl, rfl, rfl, rfl, rfl, hn, hq, hhn, hN⟩
  by_cases hlt : h < n ∧ h < q
  · obtain ⟨hlA, hlB⟩ := hlt
    obtain ⟨x, hx⟩ : ∃ x, RA[t]? = some x := ⟨_, List.getElem?_eq_getElem (by omega)⟩
    obtain ⟨y, hy⟩ : ∃ y, RB[t]? = some y := ⟨_, List.getElem?_eq_getElem (by omega)⟩
    have hgx := hga t n x hn hlA hx
    have hgy := hgb t q y hq hlB hy
    have hst := headN_step hx hy
    have hdl : ((tailP A.length B.length t).map prE).length = t := by rw [List.length_map, tailP_length]
    have hds : (tailP A.length B.length (t + 1)).map prE = (tailP A.length B.length t).map prE ++ [[.int .i64 ((n : Int) - 1), .int .i64 ((q : Int) - 1)]] := by
      rw [tailP_succ, List.map_append]
      simp only [List.map_cons, List.map_nil, prE]
      rw [show ((A.length - 1 - t : Nat) : Int) = (n : Int) - 1 by omega, show ((B.length - 1 - t : Nat) : Int) = (q : Int) - 1 by omega]
    clear hga hgb
    generalize hLE : (tailP A.length B.length t).map prE = LE at *
    have ha' : RowR w0 m (.row a cp 44 2 LE :: H) 1 aa (strs A) := ha.more
    have hb' : RowR w0 m (.row a cp 44 2 LE :: H) 1 ab (strs B) := hb.more
    generalize hSA : strs A = SA at *
    generalize hSB : strs B = SB at *
    refine WC.rSome ha' (by omega) ?_
    rintro a0 rfl
    refine WC.rSome hb' (by omega) ?_
    rintro b0 rfl
    by_cases hxy : x = y
    · rw [if_pos hxy] at hst
      (refine st ?_; intros; rename_i b9 a2 cp2)
      rw [hdl, ← hds, show (n : Int) - 1 = ((n - 1 : Nat) : Int) by omega, show (q : Int) - 1 = ((q - 1 : Nat) : Int) by omega]
      refine WQ.next (2 * (n - 1)) ⟨t + 1, n - 1, q - 1, a2, cp2, rfl, rfl, rfl, rfl, rfl, ?_, ?_, ?_, ?_⟩ (by omega) zsb zpk
      · omega
      · omega
      · exact ⟨by omega, by omega⟩
      · omega
    · rw [if_neg hxy] at hst
      have hfin := hK t n q a cp (by omega) hn hq
      rw [hLE] at hfin
      (try (refine st ?_; intros))
      exact WQ.weak zsb zpk hfin
  · have hst := headN_nil (A := RA) (B := RB) (h := t) (by omega)
    have hl2 : ¬ h < n ∨ h < n ∧ ¬ h < q := by omega
    have hfin := hK t n q a cp (by omega) hn hq
    rcases hl2 with hl2 | ⟨hl2, hl3⟩
    · (try (refine st ?_; intros))
      exact WQ.weak zsb zpk hfin
    · (try (refine st ?_; intros))
      exact WQ.weak zsb zpk hfin
theorem sq_D28_1 {G : Prop} (h : G := by (repeat (first | (refine sp ?_; (repeat intro zzc)) | (refine WL.indexAddrA rfl rfl (by (first | with_reducible exact natz _ | with_reducible exact natz0 | with_reducible exact natz1 | with_reducible exact natz2 | with_reducible exact natz3 | with_reducible exact natz4 | with_reducible exact natz8 | (apply natz_add; (· first | with_reducible exact natz _ | with_reducible exact natz0 | with_reducible exact natz1 | with_reducible exact natz2 | with_reducible exact natz3 | with_reducible exact natz4 | with_reducible exact natz8); (· first | with_reducible exact natz _ | with_reducible exact natz0 | with_reducible exact natz1 | with_reducible exact natz2 | with_reducible exact natz3 | with_reducible exact natz4 | with_reducible exact natz8)) | (apply natz_sub; (· first | with_reducible exact natz _ | with_reducible exact natz0 | with_reducible exact natz1 | with_reducible exact natz2 | with_reducible exact natz3 | with_reducible exact natz4 | with_reducible exact natz8); (· first | with_reducible exact natz _ | with_reducible exact natz0 | with_reducible exact natz1 | with_reducible exact natz2 | with_reducible exact natz3 | with_reducible exact natz4 | with_reducible exact natz8); (· omega)) | exact (Int.toNat_of_nonneg (by omega)).symm)) rfl rfl (by omega) rfl rfl ?_))); exact WQ.q1 rfl) : G := h
theorem st_D28_1 {G G' : Prop} (next : G') (h : Bx G' → G := by intro zzn; (first | ((refine st ?_; (repeat intro zzc)); (try ((first | (refine WL.indexAddrA rfl rfl (by (first | with_reducible exact natz _ | with_reducible exact natz0 | with_reducible exact natz1 | with_reducible exact natz2 | with_reducible exact natz3 | with_reducible exact natz4 | with_reducible exact natz8 | (apply natz_add; (· first | with_reducible exact natz _ | with_reducible exact natz0 | with_reducible exact natz1 | with_reducible exact natz2 | with_reducible exact natz3 | with_reducible exact natz4 | with_reducible exact natz8); (· first | with_reducible exact natz _ | with_reducible exact natz0 | with_reducible exact natz1 | with_reducible exact natz2 | with_reducible exact natz3 | with_reducible exact natz4 | with_reducible exact natz8)) | (apply natz_sub; (· first | with_reducible exact natz _ | with_reducible exact natz0 | with_reducible exact natz1 | with_reducible exact natz2 | with_reducible exact natz3 | with_reducible exact natz4 | with_reducible exact natz8); (· first | with_reducible exact natz _ | with_reducible exact natz0 | with_reducible exact natz1 | with_reducible exact natz2 | with_reducible exact natz3 | with_reducible exact natz4 | with_reducible exact natz8); (· omega)) | exact (Int.toNat_of_nonneg (by omega)).symm)) rfl rfl (by omega) rfl rfl ?_) | ((refine iDraw ?_; (first | refine WC.drawAll rfl (by decide +kernel) ?_ | refine WC.draw 1 rfl (by decide +kernel) ?_ | refine WC.draw 2 rfl (by decide +kernel) ?_ | refine WC.draw 3 rfl (by decide +kernel) ?_ | refine WC.draw 4 rfl (by decide +kernel) ?_ | refine WC.draw 5 rfl (by decide +kernel) ?_ | refine WC.draw 6 rfl (by decide +kernel) ?_ | refine WC.draw 7 rfl (by decide +kernel) ?_ | refine WC.draw 8 rfl (by decide +kernel) ?_ | refine WC.draw 9 rfl (by decide +kernel) ?_ | refine WC.draw 10 rfl (by decide +kernel) ?_ | refine WC.draw 11 rfl (by decide +kernel) ?_ | refine WC.draw 12 rfl (by decide +kernel) ?_ | refine WC.draw 13 rfl (by decide +kernel) ?_ | refine WC.draw 14 rfl (by decide +kernel) ?_ | refine WC.draw 15 rfl (by decide +kernel) ?_ | refine WC.draw 16 rfl (by decide +kernel) ?_ | refine WC.draw 17 rfl (by decide +kernel) ?_ | refine WC.draw 18 rfl (by decide +kernel) ?_ | refine WC.draw 19 rfl (by decide +kernel) ?_ | refine WC.draw 20 rfl (by decide +kernel) ?_ | refine WC.draw 21 rfl (by decide +kernel) ?_ | refine WC.draw 22 rfl (by decide +kernel) ?_ | refine WC.draw 23 rfl (by decide +kernel) ?_ | refine WC.draw 24 rfl (by decide +kernel) ?_)); (repeat (refine WD.cons rfl (fun c h => by cases h) sq_D28_1 ?_)); refine WD.nil ?_)); (try (refine st ?_; (repeat intro zzc)))))) | ((first | (refine WL.indexAddrA rfl rfl (by (first | with_reducible exact natz _ | with_reducible exact natz0 | with_reducible exact natz1 | with_reducible exact natz2 | with_reducible exact natz3 | with_reducible exact natz4 | with_reducible exact natz8 | (apply natz_add; (· first | with_reducible exact natz _ | with_reducible exact natz0 | with_reducible exact natz1 | with_reducible exact natz2 | with_reducible exact natz3 | with_reducible exact natz4 | with_reducible exact natz8); (· first | with_reducible exact natz _ | with_reducible exact natz0 | with_reducible exact natz1 | with_reducible exact natz2 | with_reducible exact natz3 | with_reducible exact natz4 | with_reducible exact natz8)) | (apply natz_sub; (· first | with_reducible exact natz _ | with_reducible exact natz0 | with_reducible exact natz1 | with_reducible exact natz2 | with_reducible exact natz3 | with_reducible exact natz4 | with_reducible exact natz8); (· first | with_reducible exact natz _ | with_reducible exact natz0 | with_reducible exact natz1 | with_reducible exact natz2 | with_reducible exact natz3 | with_reducible exact natz4 | with_reducible exact natz8); (· omega)) | exact (Int.toNat_of_nonneg (by omega)).symm)) rfl rfl (by omega) rfl rfl ?_) | ((refine iDraw ?_; (first | refine WC.drawAll rfl (by decide +kernel) ?_ | refine WC.draw 1 rfl (by decide +kernel) ?_ | refine WC.draw 2 rfl (by decide +kernel) ?_ | refine WC.draw 3 rfl (by decide +kernel) ?_ | refine WC.draw 4 rfl (by decide +kernel) ?_ | refine WC.draw 5 rfl (by decide +kernel) ?_ | refine WC.draw 6 rfl (by decide +kernel) ?_ | refine WC.draw 7 rfl (by decide +kernel) ?_ | refine WC.draw 8 rfl (by decide +kernel) ?_ | refine WC.draw 9 rfl (by decide +kernel) ?_ | refine WC.draw 10 rfl (by decide +kernel) ?_ | refine WC.draw 11 rfl (by decide +kernel) ?_ | refine WC.draw 12 rfl (by decide +kernel) ?_ | refine WC.draw 13 rfl (by decide +kernel) ?_ | refine WC.draw 14 rfl (by decide +kernel) ?_ | refine WC.draw 15 rfl (by decide +kernel) ?_ | refine WC.draw 16 rfl (by decide +kernel) ?_ | refine WC.draw 17 rfl (by decide +kernel) ?_ | refine WC.draw 18 rfl (by decide +kernel) ?_ | refine WC.draw 19 rfl (by decide +kernel) ?_ | refine WC.draw 20 rfl (by decide +kernel) ?_ | refine WC.draw 21 rfl (by decide +kernel) ?_ | refine WC.draw 22 rfl (by decide +kernel) ?_ | refine WC.draw 23 rfl (by decide +kernel) ?_ | refine WC.draw 24 rfl (by decide +kernel) ?_)); (repeat (refine WD.cons rfl (fun c h => by cases h) sq_D28_1 ?_)); refine WD.nil ?_)); (try (refine st ?_; (repeat intro zzc))))); (repeat ((first | (refine WL.indexAddrA rfl rfl (by (first | with_reducible exact natz _ | with_reducible exact natz0 | with_reducible exact natz1 | with_reducible exact natz2 | with_reducible exact natz3 | with_reducible exact natz4 | with_reducible exact natz8 | (apply natz_add; (· first | with_reducible exact natz _ | with_reducible exact natz0 | with_reducible exact natz1 | with_reducible exact natz2 | with_reducible exact natz3 | with_reducible exact natz4 | with_reducible exact natz8); (· first | with_reducible exact natz _ | with_reducible exact natz0 | with_reducible exact natz1 | with_reducible exact natz2 | with_reducible exact natz3 | with_reducible exact natz4 | with_reducible exact natz8)) | (apply natz_sub; (· first | with_reducible exact natz _ | with_reducible exact natz0 | with_reducible exact natz1 | with_reducible exact natz2 | with_reducible exact natz3 | with_reducible exact natz4 | with_reducible exact natz8); (· first | with_reducible exact natz _ | with_reducible exact natz0 | with_reducible exact natz1 | with_reducible exact natz2 | with_reducible exact natz3 | with_reducible exact natz4 | with_reducible exact natz8); (· omega)) | exact (Int.toNat_of_nonneg (by omega)).symm)) rfl rfl (by omega) rfl rfl ?_) | ((refine iDraw ?_; (first | refine WC.drawAll rfl (by decide +kernel) ?_ | refine WC.draw 1 rfl (by decide +kernel) ?_ | refine WC.draw 2 rfl (by decide +kernel) ?_ | refine WC.draw 3 rfl (by decide +kernel) ?_ | refine WC.draw 4 rfl (by decide +kernel) ?_ | refine WC.draw 5 rfl (by decide +kernel) ?_ | refine WC.draw 6 rfl (by decide +kernel) ?_ | refine WC.draw 7 rfl (by decide +kernel) ?_ | refine WC.draw 8 rfl (by decide +kernel) ?_ | refine WC.draw 9 rfl (by decide +kernel) ?_ | refine WC.draw 10 rfl (by decide +kernel) ?_ | refine WC.draw 11 rfl (by decide +kernel) ?_ | refine WC.draw 12 rfl (by decide +kernel) ?_ | refine WC.draw 13 rfl (by decide +kernel) ?_ | refine WC.draw 14 rfl (by decide +kernel) ?_ | refine WC.draw 15 rfl (by decide +kernel) ?_ | refine WC.draw 16 rfl (by decide +kernel) ?_ | refine WC.draw 17 rfl (by decide +kernel) ?_ | refine WC.draw 18 rfl (by decide +kernel) ?_ | refine WC.draw 19 rfl (by decide +kernel) ?_ | refine WC.draw 20 rfl (by decide +kernel) ?_ | refine WC.draw 21 rfl (by decide +kernel) ?_ | refine WC.draw 22 rfl (by decide +kernel) ?_ | refine WC.draw 23 rfl (by decide +kernel) ?_ | refine WC.draw 24 rfl (by decide +kernel) ?_)); (repeat (refine WD.cons rfl (fun c h => by cases h) sq_D28_1 ?_)); refine WD.nil ?_)); (try (refine st ?_; (repeat intro zzc))))); (repeat revert zzc); exact zzn.out) : G := h ⟨next⟩
theorem rm_mid {P M : List (Nat × Nat)} {va vb vc : Value} {ma oa : Option Addr} {mc oc h n q : Nat} {w0 : World} {m : Mem} {H : SHeap} {Q : Exit → Act → World → Prop} (hP : P.length ≤ 4194304) (hM : M.length ≤ 1024) (hh : h ≤ 4194304) (hMb : ∀ p ∈ M, p.1 ≤ 4194304 ∧ p.2 ≤ 4194304)
    (hK : ∀ a cp, WQ 138 w0 Q (.exit 4) [(12, .int .i64 (q : Int)), (11, .int .i64 (n : Int)), (10, .int .i64 (h : Int)), (9, .int .i64 (h : Int)), (8, vc), (7, .slice a (P ++ M.map fun p => (h + p.1, h + p.2)).length cp), (5, va), (6, vb)] [] m (.row a cp 44 2 ((P ++ M.map fun p => (h + p.1, h + p.2)).map prE) :: H)) :
    WC Try.prog none 138 w0 ((loopsIn (Try.f15.body.getD .skip)).getD 2 .skip) Q [(106, .int .i64 0), (105, .int .i64 (M.length : Int)), (104, .slice ma M.length mc), (12, .int .i64 (q : Int)), (11, .int .i64 (n : Int)), (10, .int .i64 (h : Int)), (9, .int .i64 (h : Int)), (8, vc), (7, .slice oa P.length oc), (5, va), (6, vb)] [] m (.row oa oc 44 2 (P.map prE) :: .row ma mc 44 2 (M.map prE) :: H) := by
  have hml : (M.map prE).length = M.length := List.length_map _
  refine WC.loopH [(106, .int .i64 ((0) : Int)), (105, .int .i64 (M.length : Int)), (104, .slice ma M.length mc), (12, .int .i64 (q : Int)), (11, .int .i64 (n : Int)), (10, .int .i64 (h : Int)), (9, .int .i64 (h : Int)), (8, vc), (7, .slice (oa) (P).length (oc)), (5, va), (6, vb)] ?_ ?_ (fun j r ds m' H' => ∃ (i : Nat) (a : Option Addr) (cp : Nat) (O : List (Nat × Nat)), j = M.length - i ∧ r = [(106, .int .i64 (i : Int)), (105, .int .i64 (M.length : Int)), (104, .slice ma M.length mc), (12, .int .i64 (q : Int)), (11, .int .i64 (n : Int)), (10, .int .i64 (h : Int)), (9, .int .i64 (h : Int)), (8, vc), (7, .slice a O.length cp), (5, va), (6, vb)] ∧ ds = [] ∧ m = m' ∧ H' = .row a cp 44 2 (O.map prE) :: .row ma mc 44 2 (M.map prE) :: H ∧ (i ≤ M.length) ∧ (O = P ++ (M.take i).map (fun p => (h + p.1, h + p.2)))) (M.length - (0)) ⟨0, oa, oc, P, rfl, rfl, rfl, rfl, rfl, by omega, by simp⟩ ?_
  · (repeat (first | exact Env.Sub.nil | refine Env.Sub.cons rfl ?_))
  · exact zpk
  rintro j r ds m' H' ⟨i, a, cp, O, rfl, rfl, rfl, rfl, rfl, hi, hO⟩
  have hOl : O.length = P.length + i := by rw [hO, List.length_append, List.length_map, List.length_take]; omega
  by_cases hlt : i < M.length
  · obtain ⟨p, hp⟩ : ∃ p, M[i]? = some p := ⟨_, List.getElem?_eq_getElem hlt⟩
    have hpb := hMb p (List.mem_of_getElem? hp)
    have hgp : (M.map prE)[i]? = some [.int .i64 (p.1 : Int), .int .i64 (p.2 : Int)] := by rw [List.getElem?_map, hp]; rfl
    have hsn : O ++ [(h + p.1, h + p.2)] = P ++ (M.take (i + 1)).map (fun p => (h + p.1, h + p.2)) := by rw [hO, List.take_succ, hp]; simp
    have hse : O.map prE ++ [[Value.int .i64 ((p.1 : Int) + (h : Int)), .int .i64 ((p.2 : Int) + (h : Int))]] = (O ++ [(h + p.1, h + p.2)]).map prE := by
      rw [List.map_append]
      simp only [List.map_cons, List.map_nil, prE]
      rw [show ((h + p.1 : Nat) : Int) = (p.1 : Int) + (h : Int) by omega, show ((h + p.2 : Nat) : Int) = (p.2 : Int) + (h : Int) by omega]
    have hol : (O.map prE).length = O.length := List.length_map _
    have hln : O.length + 1 = (O ++ [(h + p.1, h + p.2)]).length := by simp
    generalize M.map prE = ME at *
    generalize O.map prE = OE at *
    refine WC.rowSome (a := ma) (es := ME) zhs (by omega) ?_
    rintro a0 rfl
    (refine st_D28_1 ?_; intros; rename_i bp b9 a2 cp2)
    rw [hol, hse, hln]
    refine WQ.next (M.length - (i + 1)) ⟨i + 1, a2, cp2, O ++ [(h + p.1, h + p.2)], rfl, rfl, rfl, rfl, rfl, ?_, ?_⟩ (by omega) zsb zpk
    · omega
    · exact hsn
  · rw [List.take_of_length_le (by omega)] at hO
    subst hO
    have hfin := hK a cp
    (try (refine st_D28_1 ?_; intros))
    exact WQ.weak zsb zpk hfin
theorem rm_back {P : List (Nat × Nat)} {ta oa : Option Addr} {x y tc oc t : Nat} {w0 : World} {m : Mem} {H : SHeap} {Q : Exit → Act → World → Prop} (hP : P.length ≤ 4194304) (ht : t ≤ 4194304) (hx : t ≤ x) (hy : t ≤ y)
    (hK : ∀ a cp, WQ 138 w0 Q (.exit 6) [(7, .slice a (P.length + t) cp)] [] m (.row a cp 44 2 ((P ++ diagL (x - t) (y - t) t).map prE) :: H)) :
    WC Try.prog none 138 w0 ((loopsIn (Try.f15.body.getD .skip)).getD 3 .skip) Q [(15, .int .i64 ((t : Int) - 1)), (8, .slice ta t tc), (7, .slice oa P.length oc)] [] m (.row oa oc 44 2 (P.map prE) :: .row ta tc 44 2 ((tailP x y t).map prE) :: H) := by
  have htl : ((tailP x y t).map prE).length = t := by rw [List.length_map, tailP_length]
  have hd0 : P = P ++ diagL (x - t) (y - t) 0 := by unfold diagL; simp
  rw [show P.map prE = (P ++ diagL (x - t) (y - t) 0).map prE from by rw [← hd0], show (t : Int) - 1 = (t : Int) - 1 - ((0 : Nat) : Int) by simp]
  refine WC.loopH [(15, .int .i64 ((t : Int) - 1 - ((0) : Int))), (8, .slice ta t tc), (7, .slice (oa) (P.length + (0)) (oc))] ?_ ?_ (fun j r ds m' H' => ∃ (c : Nat) (a : Option Addr) (cp : Nat), j = t - c ∧ r = [(15, .int .i64 ((t : Int) - 1 - (c : Int))), (8, .slice ta t tc), (7, .slice a (P.length + c) cp)] ∧ ds = [] ∧ m = m' ∧ H' = .row a cp 44 2 ((P ++ diagL (x - t) (y - t) c).map prE) :: .row ta tc 44 2 ((tailP x y t).map prE) :: H ∧ (c ≤ t)) (t - (0)) ⟨0, oa, oc, rfl, rfl, rfl, rfl, rfl, by omega⟩ ?_
  · (repeat (first | exact Env.Sub.nil | refine Env.Sub.cons rfl ?_))
  · exact zpk
  rintro j r ds m' H' ⟨c, a, cp, rfl, rfl, rfl, rfl, rfl, hc⟩
  by_cases hlt : c < t
  · have hgt : ((tailP x y t).map prE)[((t : Int) - 1 - (c : Int)).toNat]? = some [.int .i64 ((x - t + c : Nat) : Int), .int .i64 ((y - t + c : Nat) : Int)] := by
      rw [show ((t : Int) - 1 - (c : Int)).toNat = t - 1 - c by omega, List.getElem?_map, tailP_get (by omega)]
      simp only [Option.map_some, prE]
      rw [show x - 1 - (t - 1 - c) = x - t + c by omega, show y - 1 - (t - 1 - c) = y - t + c by omega]
    have hdl2 : ((P ++ diagL (x - t) (y - t) c).map prE).length = P.length + c := by rw [List.length_map, List.length_append, diagL_length]
    have hds : (P ++ diagL (x - t) (y - t) (c + 1)).map prE = (P ++ diagL (x - t) (y - t) c).map prE ++ [[.int .i64 ((x - t + c : Nat) : Int), .int .i64 ((y - t + c : Nat) : Int)]] := by
      rw [diagL_succ, ← List.append_assoc, List.map_append, List.map_append]
      simp only [List.map_cons, List.map_nil, prE]
    generalize (P ++ diagL (x - t) (y - t) c).map prE = LE2 at *
    generalize (tailP x y t).map prE = TE at *
    refine WC.rowSome (a := ta) (es := TE) zhs (by omega) ?_
    rintro t0 rfl
    (refine st_D28_1 ?_; intros; rename_i b9 a4 cp4)
    rw [hdl2, ← hds, show (t : Int) - 1 - (c : Int) - 1 = (t : Int) - 1 - ((c + 1 : Nat) : Int) by omega]
    refine WQ.next (t - (c + 1)) ⟨c + 1, a4, cp4, rfl, rfl, rfl, rfl, rfl, ?_⟩ (by omega) zsb zpk
    · omega
  · obtain rfl : c = t := by omega
    have hfin := hK a cp
    (try (refine st_D28_1 ?_; intros))
    exact WQ.weak zsb zpk hfin
end Go.Proofs.Ytieangfnjflfmaa

/-
  A walk's engine: the first entry of a map whose keys are texts. No condition.
-/
set_option linter.all false
namespace Go.Eng
open Go Go.RowKit
section
variable {P : Program} {ro : Option Nat} {n : Nat} {w0 : World} {Q : Exit → Act → World → Prop} {r : Env} {ds : List Nat} {m : Mem} {H : SHeap}
  {ops : Array Oper} {l : List Oper} {d : Nat} {ty : TypeId} {pos : String} {after : Array Edge} {t : TypeId} {x y : Operand}
theorem run_checkKeyS {kt : TypeId} {k : ByteArray} {e : Bool} {w : World} (hk : P.underlying kt = some .string) : (Instr.checkKey e 10000 kt (.string k)).run P w = .ok () w := by
  have key : ∀ j, (Instr.checkKey e (j + 1) kt (.string k)).run P w = .ok () w := by
    intro j
    rw [Instr.checkKey]
    simp [run_underlying hk]
  exact key 9999
theorem WL.mapFirst {kt et : TypeId} {b : Nat} {k : ByteArray} {v : Value} {u : Operand} {H' : SHeap} (hx : r.ev x = some (.map (some b))) (hy : r.ev y = some (.string k)) (hv : r.ev u = some v)
    (hu : P.underlying t = some (.map kt et)) (hk : P.underlying kt = some .string) (hr : Repl (.blk b (.map #[] 0)) (.blk b (.map #[⟨.string k, v, 0⟩] 1)) H H')
    (h : WL P ro n w0 ops Q l r ds m H') :
    WL P ro n w0 ops Q (⟨none, .insert t x y u, ty, pos, after, none⟩ :: l) r ds m H :=
  .act (fun m' H'' => m' = m ∧ H'' = H') rfl (fun _ h => by cases h)
    (fun tmps w ho hs => ⟨m, H', w.putObj b (.map #[⟨.string k, v, 0⟩] 1), by
      have hb : w.heap[b]? = some (.map #[] 0) := hs.own _ hr.mem
      have h1 : (getObj b).run P w = .ok (.map #[] 0) w := by simp [getObj, Sem.run, hb]
      have h3 : ∀ o, (setObj b o).run P w = .ok () (w.putObj b o) := fun o => by simp [setObj, Sem.run, hb, World.putObj]
      have h2 : (Instr.mapUpdate t (.map (some b)) (.string k) v).run P w = .ok () (w.putObj b (.map #[⟨.string k, v, 0⟩] 1)) := by
        simp only [Instr.mapUpdate, Sem.run_bind, run_underlying hu, Result.andThen_ok, h1]
        simp only [Sem.run_bind, Sem.run_pure, Result.andThen_ok, run_checkKeyS hk, Instr.findKey, run_underlying hk]
        rw [show Instr.findNow .string (.string k) (#[] : Array MapEntry).toList 0 = some none from rfl]
        simp only [Sem.run_pure, Result.andThen_ok]
        rw [h3]; rfl
      simp only [execOp, ho.ev hx, ho.ev hy, ho.ev hv, h2, Sem.run_bind, Result.andThen_ok]
      try rfl, hs.replObj hr, rfl, rfl⟩)
    (by rintro _ _ ⟨rfl, rfl⟩; exact h)
end
end Go.Eng

/-
  The walks of draft.New and Len. No condition.
-/
namespace Go.Proofs.Ytieangfnjflfmaa
open Go Go.Eng
set_option maxRecDepth 100000
set_option maxHeartbeats 4000000
set_option linter.all false
attribute [local irreducible] WL WC WQ QFun QLoop Does Q1 QRound QAssign Go.Addr.add
theorem sq_D18_1 {G : Prop} (h : G := by (repeat (first | (refine sp ?_; (repeat intro zzc)) | (refine WL.makeMap .i64 rfl ?_; intro zzc))); exact WQ.q1 rfl) : G := h
theorem st_D18_1 {G G' : Prop} (next : G') (h : Bx G' → G := by intro zzn; (first | ((refine st ?_; (repeat intro zzc)); (try ((first | (refine WL.makeMap .i64 rfl ?_; intro zzc) | ((refine iDraw ?_; (first | refine WC.drawAll rfl (by decide +kernel) ?_ | refine WC.draw 1 rfl (by decide +kernel) ?_ | refine WC.draw 2 rfl (by decide +kernel) ?_ | refine WC.draw 3 rfl (by decide +kernel) ?_ | refine WC.draw 4 rfl (by decide +kernel) ?_ | refine WC.draw 5 rfl (by decide +kernel) ?_ | refine WC.draw 6 rfl (by decide +kernel) ?_ | refine WC.draw 7 rfl (by decide +kernel) ?_ | refine WC.draw 8 rfl (by decide +kernel) ?_ | refine WC.draw 9 rfl (by decide +kernel) ?_ | refine WC.draw 10 rfl (by decide +kernel) ?_ | refine WC.draw 11 rfl (by decide +kernel) ?_ | refine WC.draw 12 rfl (by decide +kernel) ?_ | refine WC.draw 13 rfl (by decide +kernel) ?_ | refine WC.draw 14 rfl (by decide +kernel) ?_ | refine WC.draw 15 rfl (by decide +kernel) ?_ | refine WC.draw 16 rfl (by decide +kernel) ?_ | refine WC.draw 17 rfl (by decide +kernel) ?_ | refine WC.draw 18 rfl (by decide +kernel) ?_ | refine WC.draw 19 rfl (by decide +kernel) ?_ | refine WC.draw 20 rfl (by decide +kernel) ?_ | refine WC.draw 21 rfl (by decide +kernel) ?_ | refine WC.draw 22 rfl (by decide +kernel) ?_ | refine WC.draw 23 rfl (by decide +kernel) ?_ | refine WC.draw 24 rfl (by decide +kernel) ?_)); (repeat (refine WD.cons rfl (fun c h => by cases h) sq_D18_1 ?_)); refine WD.nil ?_)); (try (refine st ?_; (repeat intro zzc)))))) | ((first | (refine WL.makeMap .i64 rfl ?_; intro zzc) | ((refine iDraw ?_; (first | refine WC.drawAll rfl (by decide +kernel) ?_ | refine WC.draw 1 rfl (by decide +kernel) ?_ | refine WC.draw 2 rfl (by decide +kernel) ?_ | refine WC.draw 3 rfl (by decide +kernel) ?_ | refine WC.draw 4 rfl (by decide +kernel) ?_ | refine WC.draw 5 rfl (by decide +kernel) ?_ | refine WC.draw 6 rfl (by decide +kernel) ?_ | refine WC.draw 7 rfl (by decide +kernel) ?_ | refine WC.draw 8 rfl (by decide +kernel) ?_ | refine WC.draw 9 rfl (by decide +kernel) ?_ | refine WC.draw 10 rfl (by decide +kernel) ?_ | refine WC.draw 11 rfl (by decide +kernel) ?_ | refine WC.draw 12 rfl (by decide +kernel) ?_ | refine WC.draw 13 rfl (by decide +kernel) ?_ | refine WC.draw 14 rfl (by decide +kernel) ?_ | refine WC.draw 15 rfl (by decide +kernel) ?_ | refine WC.draw 16 rfl (by decide +kernel) ?_ | refine WC.draw 17 rfl (by decide +kernel) ?_ | refine WC.draw 18 rfl (by decide +kernel) ?_ | refine WC.draw 19 rfl (by decide +kernel) ?_ | refine WC.draw 20 rfl (by decide +kernel) ?_ | refine WC.draw 21 rfl (by decide +kernel) ?_ | refine WC.draw 22 rfl (by decide +kernel) ?_ | refine WC.draw 23 rfl (by decide +kernel) ?_ | refine WC.draw 24 rfl (by decide +kernel) ?_)); (repeat (refine WD.cons rfl (fun c h => by cases h) sq_D18_1 ?_)); refine WD.nil ?_)); (try (refine st ?_; (repeat intro zzc))))); (repeat ((first | (refine WL.makeMap .i64 rfl ?_; intro zzc) | ((refine iDraw ?_; (first | refine WC.drawAll rfl (by decide +kernel) ?_ | refine WC.draw 1 rfl (by decide +kernel) ?_ | refine WC.draw 2 rfl (by decide +kernel) ?_ | refine WC.draw 3 rfl (by decide +kernel) ?_ | refine WC.draw 4 rfl (by decide +kernel) ?_ | refine WC.draw 5 rfl (by decide +kernel) ?_ | refine WC.draw 6 rfl (by decide +kernel) ?_ | refine WC.draw 7 rfl (by decide +kernel) ?_ | refine WC.draw 8 rfl (by decide +kernel) ?_ | refine WC.draw 9 rfl (by decide +kernel) ?_ | refine WC.draw 10 rfl (by decide +kernel) ?_ | refine WC.draw 11 rfl (by decide +kernel) ?_ | refine WC.draw 12 rfl (by decide +kernel) ?_ | refine WC.draw 13 rfl (by decide +kernel) ?_ | refine WC.draw 14 rfl (by decide +kernel) ?_ | refine WC.draw 15 rfl (by decide +kernel) ?_ | refine WC.draw 16 rfl (by decide +kernel) ?_ | refine WC.draw 17 rfl (by decide +kernel) ?_ | refine WC.draw 18 rfl (by decide +kernel) ?_ | refine WC.draw 19 rfl (by decide +kernel) ?_ | refine WC.draw 20 rfl (by decide +kernel) ?_ | refine WC.draw 21 rfl (by decide +kernel) ?_ | refine WC.draw 22 rfl (by decide +kernel) ?_ | refine WC.draw 23 rfl (by decide +kernel) ?_ | refine WC.draw 24 rfl (by decide +kernel) ?_)); (repeat (refine WD.cons rfl (fun c h => by cases h) sq_D18_1 ?_)); refine WD.nil ?_)); (try (refine st ?_; (repeat intro zzc))))); (repeat revert zzc); exact zzn.out) : G := h ⟨next⟩
theorem new_any (s : Tx) (hs : s.length ≤ 65536) (w0 : World) (m : Mem) (H : SHeap) : Does Try.prog 21 #[str s] w0 m H (fun v m' H' => m' = m ∧ ∃ (b bm : Nat) (a : Option Addr) (c : Nat), v = .tuple #[.pointer (some ⟨b, 0, none⟩), .int .i64 0] ∧ H' = .blk b (.cells [.slice a 1 c, .map (some bm)].toArray 106 (0, 0)) :: H) := by
  refine Does.of_body (args := [str s]) Try.func21 rfl Try.ntmps21 rfl ?_
  (refine st_D18_1 ?_; intros; rename_i b3)
  refine w_callF Try.func23 ?_ (hs := long_any (L := [s]) (by simp) (rowR_blk (T := 9) (fz := (0, 0)) (L := [str s]) zhs rfl (by simp [strs])))
  rintro v m H9 ⟨rfl, rfl, rfl⟩
  rw [dcd_false (show ¬ Long [s] from by rintro ⟨x, hx, hx2⟩; rw [List.mem_singleton] at hx; subst hx; omega)]
  (refine st_D18_1 ?_; intros; rename_i bd bm)
  refine WL.mapFirst rfl rfl rfl rfl rfl (by repeat (first | exact Repl.here | apply Repl.there)) ?_
  (refine st_D18_1 ?_; intros; rename_i bh)
  exact q_fin0 (H0 := .blk bh (.cells [.slice (some ⟨bd, 0, none⟩) 1 1, .map (some bm)].toArray 106 (0, 0)) :: H) ⟨rfl, bh, bm, some ⟨bd, 0, none⟩, 1, rfl, rfl⟩ (hd := zpk)
theorem len_any {b n c : Nat} {a : Option Addr} {mp : Value} (w0 : World) (m : Mem) (H : SHeap) : Does Try.prog 22 #[.pointer (some ⟨b, 0, none⟩)] w0 m (.blk b (.cells [.slice a n c, mp].toArray 106 (0, 0)) :: H) (Gives (.int .i64 (n : Int)) m (.blk b (.cells [.slice a n c, mp].toArray 106 (0, 0)) :: H)) := by
  refine Does.of_body (args := [.pointer (some ⟨b, 0, none⟩)]) Try.func22 rfl Try.ntmps22 rfl ?_
  (try (refine st_D18_1 ?_; intros))
  exact q_fin0 (H0 := .blk b (.cells [.slice a n c, mp].toArray 106 (0, 0)) :: H) (Gives.mk rfl) (hd := zpk)
end Go.Proofs.Ytieangfnjflfmaa

/-
  The law's own example. No condition.
-/
namespace Go.Eng
open Go
theorem toks_abc : toks [97, 32, 98, 32, 99] = [[97], [32], [98], [32], [99]] := by decide +kernel
theorem toks_axc : toks [97, 32, 120, 32, 99] = [[97], [32], [120], [32], [99]] := by decide +kernel
theorem toks_abd : toks [97, 32, 98, 32, 100] = [[97], [32], [98], [32], [100]] := by decide +kernel
theorem match_axc : matchL [[97], [32], [98], [32], [99]] [[97], [32], [120], [32], [99]] = [(0, 0), (1, 1), (3, 3), (4, 4)] := by
  have h1 : headN [[97], [32], [98], [32], [99]] [[97], [32], [120], [32], [99]] = 2 := by decide +kernel
  have h2 : tailN [[97], [32], [98], [32], [99]] [[97], [32], [120], [32], [99]] = 2 := by decide +kernel
  have h3 : midA [[97], [32], [98], [32], [99]] [[97], [32], [120], [32], [99]] = [[98]] := by decide +kernel
  have h4 : midB [[97], [32], [98], [32], [99]] [[97], [32], [120], [32], [99]] = [[120]] := by decide +kernel
  unfold matchL
  rw [h1, h2, h3, h4]
  simp [midL, firstJ]
  decide
theorem match_abd : matchL [[97], [32], [98], [32], [99]] [[97], [32], [98], [32], [100]] = [(0, 0), (1, 1), (2, 2), (3, 3)] := by
  have h1 : headN [[97], [32], [98], [32], [99]] [[97], [32], [98], [32], [100]] = 4 := by decide +kernel
  have h2 : tailN [[97], [32], [98], [32], [99]] [[97], [32], [98], [32], [100]] = 0 := by decide +kernel
  have h3 : midA [[97], [32], [98], [32], [99]] [[97], [32], [98], [32], [100]] = [[99]] := by decide +kernel
  have h4 : midB [[97], [32], [98], [32], [99]] [[97], [32], [98], [32], [100]] = [[100]] := by decide +kernel
  unfold matchL
  rw [h1, h2, h3, h4]
  simp [midL, firstJ]
  decide
theorem weave_wakes : (weaveL [97, 32, 98, 32, 99] [97, 32, 120, 32, 99] [97, 32, 98, 32, 100]).out = [97, 32, 120, 32, 100] ∧ (weaveL [97, 32, 98, 32, 99] [97, 32, 120, 32, 99] [97, 32, 98, 32, 100]).l = [] := by
  unfold weaveL
  rw [toks_abc, toks_axc, toks_abd, match_axc, match_abd]
  decide +kernel
end Go.Eng

/-
  The walk of the laws' wakes. No condition.
-/
namespace Go.Proofs.Ytieangfnjflfmaa
open Go Go.Eng
set_option maxRecDepth 100000
set_option maxHeartbeats 4000000
set_option linter.all false
attribute [local irreducible] WL WC WQ QFun QLoop Does Q1 QRound QAssign Go.Addr.add
/-- a call that hands back a value; memory may have grown -/
def Tells (v : Value) (m : Mem) (H : SHeap) : Value → Mem → SHeap → Prop := fun u m' H' => m.le m' ∧ u = v ∧ H' = H
theorem Tells.mk {v u : Value} {m m' : Mem} {H : SHeap} (hm : m.le m') (h : u = v) : Tells v m H u m' H := ⟨hm, h, rfl⟩
theorem wres_wakes : wres [97, 32, 98, 32, 99] [97, 32, 120, 32, 99] [97, 32, 98, 32, 100] = ([97, 32, 120, 32, 100], [], 0) := by
  obtain ⟨h1, h2⟩ := weave_wakes
  rw [wres_ok (by rintro ⟨x, hx, hx2⟩; simp only [List.mem_cons, List.not_mem_nil, or_false] at hx; rcases hx with rfl | rfl | rfl <;> simp at hx2) (by rw [h1]; decide), h1, h2]
attribute [local irreducible] wres
theorem wakes_any (w0 : World) (m : Mem) (H : SHeap) : Does Try.prog 7 #[] w0 m H (Tells (.bool true) m H) := by
  refine Does.of_body (args := []) Try.func7 rfl Try.ntmps7 rfl ?_
  (try (refine st ?_; intros))
  refine w_callF Try.func8 ?_ (hs := weave_any [97, 32, 98, 32, 99] [97, 32, 120, 32, 99] [97, 32, 98, 32, 100] _ _ _)
  rintro v m1 H1 ⟨hle, al, cl, rfl, rfl⟩
  rw [show (wres [97, 32, 98, 32, 99] [97, 32, 120, 32, 99] [97, 32, 98, 32, 100]).1 = [97, 32, 120, 32, 100] by rw [wres_wakes], show (wres [97, 32, 98, 32, 99] [97, 32, 120, 32, 99] [97, 32, 98, 32, 100]).2.1 = [] by rw [wres_wakes], show (((wres [97, 32, 98, 32, 99] [97, 32, 120, 32, 99] [97, 32, 98, 32, 100]).2.2 : Nat) : Int) = 0 by rw [wres_wakes]; rfl, List.length_nil]
  (try (refine st ?_; intros))
  refine w_callF Try.func21 ?_ (hs := new_any [97] (by decide) _ _ _)
  rintro v m2 H2 ⟨rfl, b, bm, a, c, rfl, rfl⟩
  (try (refine st ?_; intros))
  refine w_callF Try.func22 ?_ (hs := len_any _ _ _)
  rintro v m3 H3 ⟨rfl, rfl, rfl⟩
  (try (refine st ?_; intros))
  exact q_fin0 (H0 := H) (Tells.mk hle (congrArg Value.bool (show dcd (((1 : Nat) : Int) = 1) = true from dcd_true rfl))) (hd := zpk)
end Go.Proofs.Ytieangfnjflfmaa

/-
  The walks of the reference's runs of units: is, one, run. No condition.
-/
namespace Go.Eng
open Go Go.RowKit
def usE (us : List Un) : List (List Value) := us.map Un.cs2
theorem usE_length (us : List Un) : (usE us).length = us.length := List.length_map _
theorem usE_get {us : List Un} {i : Nat} {u : Un} (h : us[i]? = some u) : (usE us)[i]? = some [.int .i64 (u.k : Int), .int .i64 (u.a : Int), .int .i64 (u.z : Int), .int .i32 (u.r : Int), .bool u.o] := by unfold usE; rw [List.getElem?_map, h]; rfl
/-- is there a unit of that kind at a place? -/
def isU (us : List Un) (i k : Nat) : Bool := match us[i]? with
  | some u => decide (u.k = k)
  | none => false
def oneB (J : List Nat) (u : Un) : Bool := u.o && (decide (u.k ≠ 11) && J.contains u.r)
/-- is there one piece of these runes at a place? -/
def oneU (us : List Un) (i : Nat) (J : List Nat) : Bool := match us[i]? with
  | some u => oneB J u
  | none => false
theorem isU_some {us : List Un} {i k : Nat} (h : isU us i k = true) : ∃ u, us[i]? = some u ∧ u.k = k := by
  unfold isU at h
  cases hu : us[i]? with
  | none => rw [hu] at h; cases h
  | some u => rw [hu] at h; exact ⟨u, rfl, of_decide_eq_true h⟩
theorem oneU_some {us : List Un} {i : Nat} {J : List Nat} (h : oneU us i J = true) : ∃ u, us[i]? = some u ∧ oneB J u = true := by
  unfold oneU at h
  cases hu : us[i]? with
  | none => rw [hu] at h; cases h
  | some u => rw [hu] at h; exact ⟨u, rfl, h⟩
theorem isU_not {us : List Un} {i k : Nat} {u : Un} (hu : us[i]? = some u) (h : isU us i k = false) : u.k ≠ k := by
  unfold isU at h
  rw [hu] at h
  exact of_decide_eq_false h
def jsE (J : List Nat) : List (List Value) := J.map fun r : Nat => [Value.int .i32 (r : Int)]
theorem jsE_length (J : List Nat) : (jsE J).length = J.length := List.length_map _
theorem runU_none {k : Nat} {J : Un → Bool} {us : List Un} {n : Nat} (h : us[n]? = none) : runU k J (us.drop n) = 0 := by
  rw [List.drop_of_length_le (List.getElem?_eq_none_iff.1 h)]; rfl
theorem drop_un {us : List Un} {n : Nat} {u : Un} (h : us[n]? = some u) : us.drop n = u :: us.drop (n + 1) := by
  obtain ⟨h1, h2⟩ := List.getElem?_eq_some_iff.1 h
  rw [List.drop_eq_getElem_cons h1, h2]
theorem runU_is {k : Nat} {J : Un → Bool} {us : List Un} {n : Nat} {u : Un} (h : us[n]? = some u) (hk : u.k = k) : runU k J (us.drop n) = runU k J (us.drop (n + 1)) + 1 := by
  rw [drop_un h]
  cases hd : us.drop (n + 1) with
  | nil => simp [runU, hk]
  | cons v vs => rw [runU, if_pos hk]
theorem runU_joint {k : Nat} {J : Un → Bool} {us : List Un} {n : Nat} {u v : Un} (h : us[n]? = some u) (hk : u.k ≠ k) (hJ : J u = true) (h2 : us[n + 1]? = some v) (hv : v.k = k) : runU k J (us.drop n) = runU k J (us.drop (n + 2)) + 2 := by
  rw [drop_un h, drop_un h2, runU, if_neg hk, if_pos ⟨hJ, hv⟩]
theorem runU_stop {k : Nat} {J : Un → Bool} {us : List Un} {n : Nat} {u : Un} (h : us[n]? = some u) (hk : u.k ≠ k) (hJ : J u = false ∨ isU us (n + 1) k = false) : runU k J (us.drop n) = 0 := by
  rw [drop_un h]
  cases hd : us.drop (n + 1) with
  | nil => simp [runU, hk]
  | cons v vs =>
    rw [runU, if_neg hk, if_neg]
    rintro ⟨g1, g2⟩
    rcases hJ with hJ | hJ
    · rw [hJ] at g1; cases g1
    · have : us[n + 1]? = some v := by
        have := congrArg (·[0]?) hd
        simpa [List.getElem?_drop] using this
      unfold isU at hJ
      rw [this] at hJ
      simp [g2] at hJ
end Go.Eng
namespace Go.Proofs.Ytieangfnjflfmaa
open Go Go.Eng
set_option maxRecDepth 100000
set_option maxHeartbeats 4000000
set_option linter.all false
attribute [local irreducible] WL WC WQ QFun QLoop Does Q1 QRound QAssign Go.Addr.add
attribute [local irreducible] usE jsE
theorem is_any {us : List Un} {a : Option Addr} {c i k : Nat} {w0 : World} {m : Mem} {H : SHeap} (hl : us.length ≤ 4194304) (ha : RowR w0 m H 5 a (usE us)) :
    Does Try.prog 66 #[.slice a us.length c, .int .i64 (i : Int), .int .i64 (k : Int)] w0 m H (Gives (.bool (isU us i k)) m H) := by
  refine Does.of_body (args := [.slice a us.length c, .int .i64 (i : Int), .int .i64 (k : Int)]) Try.func66 rfl Try.ntmps66 rfl ?_
  have hn := usE_length us
  by_cases hlt : i < us.length
  · obtain ⟨u, hu⟩ : ∃ u, us[i]? = some u := ⟨_, List.getElem?_eq_getElem hlt⟩
    have hg := usE_get hu
    generalize usE us = E at *
    refine WC.rSome ha (by omega) ?_
    rintro a0 rfl
    by_cases hk : u.k = k
    · (try (refine st ?_; intros))
      (refine q_fin0 ?_)
      exact Gives.mk (congrArg _ (by simp [isU, hu, hk, dcd_eq]))
    · (try (refine st ?_; intros))
      (refine q_fin0 ?_)
      exact Gives.mk (congrArg _ (by simp [isU, hu, hk, dcd_eq]; omega))
  · (try (refine st ?_; intros))
    (refine q_fin0 ?_)
    exact Gives.mk (congrArg _ (by simp [isU, List.getElem?_eq_none (Nat.le_of_not_lt hlt)]))
theorem one_any {us : List Un} {J : List Nat} {a b : Option Addr} {c cb i : Nat} {w0 : World} {m : Mem} {H : SHeap} (hl : us.length ≤ 4194304) (hJl : J.length ≤ 100) (ha : RowR w0 m H 5 a (usE us)) (hb : RowR w0 m H 1 b (jsE J)) :
    Does Try.prog 77 #[.slice a us.length c, .int .i64 (i : Int), .slice b J.length cb] w0 m H (Gives (.bool (oneU us i J)) m H) := by
  refine Does.of_body (args := [.slice a us.length c, .int .i64 (i : Int), .slice b J.length cb]) Try.func77 rfl Try.ntmps77 rfl ?_
  have hn := usE_length us
  have hj := jsE_length J
  (try (refine st ?_; intros))
  refine WC.loopH [(11, .int .i64 ((0) : Int)), (10, .int .i64 (J.length : Int)), (9, .slice b J.length cb), (0, .slice a us.length c), (1, .int .i64 (i : Int)), (2, .slice b J.length cb)] ?_ ?_ (fun j r ds m' H' => ∃ q, j = J.length - q ∧ r = [(11, .int .i64 (q : Int)), (10, .int .i64 (J.length : Int)), (9, .slice b J.length cb), (0, .slice a us.length c), (1, .int .i64 (i : Int)), (2, .slice b J.length cb)] ∧ ds = [] ∧ m = m' ∧ H' = H ∧ (q ≤ J.length) ∧ (oneU us i (J.take q) = false)) (J.length - (0)) ⟨0, rfl, rfl, rfl, rfl, rfl, by omega, by unfold oneU oneB; cases us[i]? <;> simp⟩ ?_
  · (repeat (first | exact Env.Sub.nil | refine Env.Sub.cons rfl ?_))
  · exact zpk
  rintro j r ds m' H' ⟨q, rfl, rfl, rfl, rfl, rfl, hq, hno⟩
  by_cases hlt : q < J.length
  · obtain ⟨x, hx⟩ : ∃ x, J[q]? = some x := ⟨_, List.getElem?_eq_getElem hlt⟩
    have hgx : (jsE J)[q]? = some [.int .i32 (x : Int)] := by unfold jsE; rw [List.getElem?_map, hx]; rfl
    have htk : J.take (q + 1) = J.take q ++ [x] := by rw [List.take_succ, hx]; rfl
    have hxm : x ∈ J := List.mem_of_getElem? hx
    generalize hEJ : jsE J = EJ at *
    refine WC.rSome hb (by omega) ?_
    rintro b0 rfl
    by_cases hi : i < us.length
    · obtain ⟨u, hu⟩ : ∃ u, us[i]? = some u := ⟨_, List.getElem?_eq_getElem hi⟩
      have hg := usE_get hu
      have hone : ∀ J', oneU us i J' = oneB J' u := fun J' => by unfold oneU; rw [hu]
      rw [hone] at hno
      generalize hEU : usE us = E at *
      refine WC.rSome ha (by omega) ?_
      rintro a0 rfl
      cases huo : u.o with
      | false =>
        rw [huo] at hg
        (try (refine st ?_; intros))
        refine WQ.next (J.length - (q + 1)) ⟨q + 1, rfl, rfl, rfl, rfl, rfl, ?_, ?_⟩ (by omega) zsb zpk
        · omega
        · rw [hone]; unfold oneB; rw [huo]; rfl
      | true =>
        rw [huo] at hg
        by_cases hk : u.k = 11
        · (try (refine st ?_; intros))
          refine WQ.next (J.length - (q + 1)) ⟨q + 1, rfl, rfl, rfl, rfl, rfl, ?_, ?_⟩ (by omega) zsb zpk
          · omega
          · rw [hone]; unfold oneB; simp [hk]
        · by_cases hr : u.r = x
          · (try (refine st ?_; intros))
            (refine q_fin0 ?_)
            exact Gives.mk (congrArg _ (by rw [hone]; unfold oneB; simp [huo, hk, hr, hxm]))
          · (try (refine st ?_; intros))
            refine WQ.next (J.length - (q + 1)) ⟨q + 1, rfl, rfl, rfl, rfl, rfl, ?_, ?_⟩ (by omega) zsb zpk
            · omega
            · rw [hone, htk]
              unfold oneB at hno ⊢
              rw [huo] at hno ⊢
              simp only [Bool.true_and, decide_eq_true (show u.k ≠ 11 from hk)] at hno ⊢
              simp at hno ⊢
              exact ⟨hno, hr⟩
    · (try (refine st ?_; intros))
      refine WQ.next (J.length - (q + 1)) ⟨q + 1, rfl, rfl, rfl, rfl, rfl, ?_, ?_⟩ (by omega) zsb zpk
      · omega
      · unfold oneU; rw [List.getElem?_eq_none (by omega)]
  · rw [List.take_of_length_le (by omega)] at hno
    (try (refine st ?_; intros))
    (refine q_fin0 ?_)
    exact Gives.mk (congrArg _ hno.symm)
theorem run_any {us : List Un} {J : List Nat} {a b : Option Addr} {c cb k : Nat} {w0 : World} {m : Mem} {H : SHeap} (hl : us.length ≤ 4194304) (hl0 : 1 ≤ us.length) (hJl : J.length ≤ 100) (ha : RowR w0 m H 5 a (usE us)) (hb : RowR w0 m H 1 b (jsE J)) :
    Does Try.prog 65 #[.slice a us.length c, .int .i64 (k : Int), .slice b J.length cb] w0 m H (Gives (.int .i64 ((1 + runU k (oneB J) (us.drop 1) : Nat) : Int)) m H) := by
  refine Does.of_body (args := [.slice a us.length c, .int .i64 (k : Int), .slice b J.length cb]) Try.func65 rfl Try.ntmps65 rfl ?_
  (try (refine st ?_; intros))
  refine WC.loopH [(7, .int .i64 ((1) : Int)), (0, .slice a us.length c), (1, .int .i64 (k : Int)), (2, .slice b J.length cb)] ?_ ?_ (fun j r ds m' H' => ∃ n, j = us.length - n ∧ r = [(7, .int .i64 (n : Int)), (0, .slice a us.length c), (1, .int .i64 (k : Int)), (2, .slice b J.length cb)] ∧ ds = [] ∧ m = m' ∧ H' = H ∧ (n ≤ us.length) ∧ (1 + runU k (oneB J) (us.drop 1) = n + runU k (oneB J) (us.drop n))) (us.length - (1)) ⟨1, rfl, rfl, rfl, rfl, rfl, by omega, rfl⟩ ?_
  · (repeat (first | exact Env.Sub.nil | refine Env.Sub.cons rfl ?_))
  · exact zpk
  rintro j r ds m' H' ⟨n, rfl, rfl, rfl, rfl, rfl, hn, hr⟩
  have hcast1 : (n : Int) + 1 = ((n + 1 : Nat) : Int) := by omega
  (try (refine st ?_; intros))
  refine w_callF Try.func66 ?_ (hs := is_any (i := n) (k := k) hl ha)
  rintro v m H ⟨rfl, rfl, rfl⟩
  cases h1 : isU us n k with
  | true =>
    obtain ⟨u, hu, hk⟩ := isU_some h1
    have hlt := (List.getElem?_eq_some_iff.1 hu).1
    rw [runU_is hu hk] at hr
    (try (refine st ?_; intros))
    rw [hcast1]
    refine WQ.next (us.length - (n + 1)) ⟨n + 1, rfl, rfl, rfl, rfl, rfl, ?_, ?_⟩ (by omega) zsb zpk
    · omega
    · omega
  | false =>
    (try (refine st ?_; intros))
    refine w_callF Try.func77 ?_ (hs := one_any (i := n) (J := J) hl hJl ha hb)
    rintro v m H ⟨rfl, rfl, rfl⟩
    cases h2 : oneU us n J with
    | false =>
      have hz : runU k (oneB J) (us.drop n) = 0 := by
        cases hu : us[n]? with
        | none => exact runU_none hu
        | some u => exact runU_stop hu (isU_not hu h1) (.inl (by unfold oneU at h2; rw [hu] at h2; exact h2))
      rw [hz, Nat.add_zero] at hr
      (try (refine st ?_; intros))
      exact q_fin0 (H0 := H) (Gives.mk (by rw [hr])) (hd := zpk)
    | true =>
      obtain ⟨u, hu, hJ⟩ := oneU_some h2
      have hlt := (List.getElem?_eq_some_iff.1 hu).1
      (try (refine st ?_; intros))
      rw [hcast1]
      refine w_callF Try.func66 ?_ (hs := is_any (i := n + 1) (k := k) hl ha)
      rintro v m H ⟨rfl, rfl, rfl⟩
      cases h3 : isU us (n + 1) k with
      | true =>
        obtain ⟨w, hw, hwk⟩ := isU_some h3
        have hlt2 := (List.getElem?_eq_some_iff.1 hw).1
        rw [runU_joint hu (isU_not hu h1) hJ hw hwk] at hr
        (try (refine st ?_; intros))
        rw [show (n : Int) + 2 = ((n + 2 : Nat) : Int) by omega]
        refine WQ.next (us.length - (n + 2)) ⟨n + 2, rfl, rfl, rfl, rfl, rfl, ?_, ?_⟩ (by omega) zsb zpk
        · omega
        · omega
      | false =>
        rw [runU_stop hu (isU_not hu h1) (.inr h3), Nat.add_zero] at hr
        (try (refine st ?_; intros))
        exact q_fin0 (H0 := H) (Gives.mk (by rw [hr])) (hd := zpk)
end Go.Proofs.Ytieangfnjflfmaa

/-
  The walks of package runes and of its reference, third part: the reference's numbers and forms. No condition.
-/
namespace Go.Proofs.Ytieangfnjflfmaa
open Go Go.Eng
set_option maxRecDepth 100000
set_option maxHeartbeats 4000000
set_option linter.all false
attribute [local irreducible] WL WC WQ QFun QLoop Does Q1 QRound QAssign Go.Addr.add
theorem valid_split (r : Int) : Utf8.valid r = true ↔ (0 ≤ r ∧ r ≤ 1114111) ∧ ¬ (55296 ≤ r ∧ r ≤ 57343) := by
  rw [valid_iff]; unfold okr; omega
theorem none_any (r : Int) (w0 : World) (m : Mem) (H : SHeap) : Does Try.prog 91 #[.int .i32 r] w0 m H (Gives (.bool (dcd (Utf8.valid r = false))) m H) := by
  have hv := valid_split r
  have hf : (Utf8.valid r = false) ↔ ¬ ((0 ≤ r ∧ r ≤ 1114111) ∧ ¬ (55296 ≤ r ∧ r ≤ 57343)) := by rw [← hv]; simp
  refine Does.of_body (args := [.int .i32 r]) Try.func91 rfl Try.ntmps91 rfl ?_
  (repeat' (first | (refine st ?_; intros) | (first | refine c_ways (fun h1 => ?_) (fun h1 => ?_) | refine c_nways (fun h1 => ?_) (fun h1 => ?_) | refine w_gways (fun h1 => ?_) (fun h1 => ?_) | refine w_gnways (fun h1 => ?_) (fun h1 => ?_))))
  all_goals ((refine q_fin0 ?_); refine Gives.mk ?_; first | exact vb_t (hf.2 (by omega)) | exact vb_f (fun h => absurd (hf.1 h) (by omega)) | exact vb_iff (by rw [hf]; omega))
/-- the reference's Width -/
def rwd (r : Int) : Nat := if Utf8.valid r = false then 0 else wd r.toNat
theorem rwidth_any (r : Int) (w0 : World) (m : Mem) (H : SHeap) : Does Try.prog 92 #[.int .i32 r] w0 m H (Gives (.int .i64 (rwd r : Int)) m H) := by
  have hv := valid_split r
  refine Does.of_body (args := [.int .i32 r]) Try.func92 rfl Try.ntmps92 rfl ?_
  (try (refine st ?_; intros))
  refine w_callF Try.func91 ?_ (hs := none_any _ _ _ _)
  rintro _ _ _ ⟨rfl, rfl, rfl⟩
  (repeat' (first | (refine st ?_; intros) | (first | refine c_ways (fun h1 => ?_) (fun h1 => ?_) | refine c_nways (fun h1 => ?_) (fun h1 => ?_) | refine w_gways (fun h1 => ?_) (fun h1 => ?_) | refine w_gnways (fun h1 => ?_) (fun h1 => ?_))))
  all_goals ((refine q_fin0 ?_); refine Gives.mk ?_; unfold rwd wd)
  · rw [if_pos h1]; rfl
  all_goals (have := hv.1 (by simpa using ‹¬ Utf8.valid r = false›); rw [if_neg ‹¬ Utf8.valid r = false›]; refine vi ?_; repeat' split)
  all_goals omega
theorem rwd_okr {c : Nat} (h : okr c) : rwd (c : Int) = wd c := by
  unfold rwd; rw [if_neg (by rw [(valid_nat c).2 h]; simp), Int.toNat_natCast]
/-- the code point that stands for a number -/
theorem rn_cases (r : Int) : (Utf8.valid r = false ∧ rn r = 65533) ∨ (Utf8.valid r = true ∧ r = (rn r : Int)) := by
  unfold rn
  cases h : Utf8.valid r with
  | false => exact .inl ⟨rfl, rfl⟩
  | true => have := ((valid_iff r).1 h).1; exact .inr ⟨rfl, by simp; omega⟩
def byV (x : Nat) : List Value := [.int .u8 (x : Int)]
theorem bytes_fm {c : Nat} (hc : c ≤ 1114111) : ((fmb c).map fun b => [Value.int .u8 (b.toNat : Int)]) = (fm c).map byV := by
  unfold fmb
  rw [List.map_map]
  apply List.map_congr_left
  intro x hx
  have : x < 256 := by
    unfold fm at hx
    split at hx
    · simp at hx; omega
    · split at hx
      · simp at hx; omega
      · split at hx
        · simp at hx; omega
        · simp at hx; omega
  simp [byV]; omega
theorem fm_get {c i : Nat} (h1 : 1 ≤ i) (h2 : i < wd c) : (fm c).drop i = (128 + c / 64 ^ (wd c - 1 - i) % 64) :: (fm c).drop (i + 1) := by
  unfold wd at h2 ⊢
  unfold fm
  split at h2 <;> rename_i h3
  · omega
  · rw [if_neg h3]
    split at h2 <;> rename_i h4
    · rw [if_pos h4, if_neg h3, if_pos h4]
      have : i = 1 := by omega
      subst this; simp
    · rw [if_neg h4]
      split at h2 <;> rename_i h5
      · rw [if_pos h5, if_neg h3, if_neg h4, if_pos h5]
        obtain rfl | rfl : i = 1 ∨ i = 2 := by omega
        · simp
        · simp
      · rw [if_neg h5, if_neg h3, if_neg h4, if_neg h5]
        obtain rfl | rfl | rfl : i = 1 ∨ i = 2 ∨ i = 3 := by omega
        · simp
        · simp
        · simp
theorem fm_head (c : Nat) (h : 2 ≤ wd c) : fm c = (256 - 2 ^ (8 - wd c) + c / 64 ^ (wd c - 1)) :: (fm c).drop 1 := by
  unfold wd at h ⊢
  unfold fm
  split at h <;> rename_i h3
  · omega
  · rw [if_neg h3]
    split at h <;> rename_i h4
    · rw [if_pos h4, if_neg h3, if_pos h4]; simp
    · rw [if_neg h4]
      split at h <;> rename_i h5
      · rw [if_pos h5, if_neg h3, if_neg h4, if_pos h5]; simp
      · rw [if_neg h5, if_neg h3, if_neg h4, if_neg h5]; simp
def encA (c i : Nat) : List (List Value) := List.replicate (i + 1) (byV 0) ++ ((fm c).drop (i + 1)).map byV
theorem encA_set {c i : Nat} (h1 : 1 ≤ i) (h2 : i < wd c) : (encA c i).set i (byV (128 + c / 64 ^ (wd c - 1 - i) % 64)) = encA c (i - 1) := by
  unfold encA
  rw [show i - 1 + 1 = i by omega, fm_get h1 h2, List.replicate_succ', List.append_assoc, List.set_append_right _ _ (by simp)]
  simp
theorem enc_head {c : Nat} (hc : c ≤ 1114111) (h : 2 ≤ wd c) : ∃ p, 2 ^ (8 - wd c) = p ∧ c / 64 ^ (wd c - 1) < p ∧ p ≤ 64 := by
  refine ⟨_, rfl, ?_⟩
  unfold wd at h ⊢
  split at h <;> rename_i h3
  · omega
  · rw [if_neg h3]
    split at h <;> rename_i h4
    · rw [if_pos h4]; simp; omega
    · rw [if_neg h4]
      split at h <;> rename_i h5
      · rw [if_pos h5]; simp; omega
      · rw [if_neg h5]; simp; omega
theorem encA_length (c i : Nat) (h : i < wd c) : (encA c i).length = wd c := by
  have := fm_length c
  simp [encA]; omega
theorem rencode_any (r : Int) (w0 : World) (m : Mem) (H : SHeap) : Does Try.prog 93 #[.int .i32 r] w0 m H (Gives (str (fmb (rn r))) m H) := by
  have hok := rn_ok r
  refine Does.of_body (args := [.int .i32 r]) Try.func93 rfl Try.ntmps93 rfl ?_
  (try (refine st ?_; intros))
  refine w_callF Try.func91 ?_ (hs := none_any _ _ _ _)
  rintro _ m H ⟨rfl, rfl, rfl⟩
  (try (refine st ?_; intros))
  refine WC.join (fun r' ds' m' H' => r' = [(0, .int .i32 (rn r : Int)), (2, str [])] ∧ ds' = [] ∧ m' = m ∧ H' = H) ?_ ?_
  · rcases rn_cases r with ⟨hf, hr⟩ | ⟨hf, hr⟩
    · refine WC.rename 7 (u := .bool true) rfl (by rw [dcd_true hf]) ?_
      (try (refine st ?_; intros))
      exact WQ.join ⟨rfl, rfl, rfl, rfl⟩ (Env.Sub.cons (by rw [hr]; rfl) (Env.Sub.cons rfl .nil)) (fun w h => h)
    · refine WC.rename 7 (u := .bool false) rfl (by rw [dcd_false (by rw [hf]; simp)]) ?_
      (try (refine st ?_; intros))
      exact WQ.join ⟨rfl, rfl, rfl, rfl⟩ (Env.Sub.cons (by rw [← hr]; rfl) (Env.Sub.cons rfl .nil)) (fun w h => h)
  rintro _ _ _ _ ⟨rfl, rfl, rfl, rfl⟩
  generalize rn r = c at hok ⊢
  have hc := okr_le hok
  have hw := wd_pos c
  (try (refine st ?_; intros))
  refine w_callF Try.func92 ?_ (hs := rwidth_any _ _ _ _)
  rw [rwd_okr hok]
  rintro _ m H ⟨rfl, rfl, rfl⟩
  (try (refine st ?_; intros))
  (first | refine c_ways (fun h1 => ?_) (fun h1 => ?_) | refine c_nways (fun h1 => ?_) (fun h1 => ?_) | refine w_gways (fun h1 => ?_) (fun h1 => ?_) | refine w_gnways (fun h1 => ?_) (fun h1 => ?_))
  · have h2 : c < 128 := by unfold wd at h1; split at h1 <;> (try split at h1) <;> (try split at h1) <;> omega
    (try (refine st ?_; intros))
    apply WL.blkStr (s := fmb c)
    · exact rfl
    · (repeat (first | exact List.Mem.head _ | apply List.Mem.tail))
    · rw [show fmb c = [UInt8.ofNat c] by unfold fmb fm; rw [if_pos h2]; rfl]
      simp; omega
    · rw [fmb_length]; omega
    · exact rfl
    · exact rfl
    · exact rfl
    · exact rfl
    · exact rfl
    (try (refine st ?_; intros))
    (refine q_fin0 ?_)
    exact Gives.mk rfl
  · have h2 : 128 ≤ c := by
      rcases Nat.lt_or_ge c 128 with h | h
      · exfalso; apply h1; unfold wd; rw [if_pos h]; rfl
      · exact h
    (refine st ?_; intros; rename_i bk)
    refine WC.loopW [(0, .int .i32 (c : Int)), (2, str []), (3, .int .i64 (wd c : Int)), (4, .slice (some ⟨bk, 0, none⟩) (wd c) (wd c)), (5, .int .i64 ((wd c : Int) - 1))] ?_
      (fun j r ds m' H' => r = [(0, .int .i32 (c / 64 ^ (wd c - 1 - j) : Nat)), (2, str []), (3, .int .i64 (wd c : Int)), (4, .slice (some ⟨bk, 0, none⟩) (wd c) (wd c)), (5, .int .i64 (j : Int))] ∧ ds = [] ∧ m' = m ∧ H' = .row (some ⟨bk, 0, none⟩) (wd c) 5 1 (encA c j) :: H ∧ j < wd c) (wd c - 1) ⟨?_, rfl, rfl, ?_, ?_⟩ ?_
    · (repeat (first | exact Env.Sub.nil | refine Env.Sub.cons rfl ?_))
    · simp; omega
    · rw [encA, show wd c - 1 + 1 = wd c by omega, List.drop_eq_nil_of_le (by rw [fm_length]; omega), List.map_nil, List.append_nil]; rfl
    · omega
    rintro j r ds m1 H1 ⟨rfl, rfl, rfl, rfl, hj⟩
    have hel := encA_length c j hj
    have hcc : c / 64 ^ (wd c - 1 - j) ≤ c := Nat.div_le_self _ _
    generalize hq : c / 64 ^ (wd c - 1 - j) = q at hcc ⊢
    by_cases hj1 : 1 ≤ j
    · have he : (encA c j).set j [Value.int .u8 (128 + (q : Int) % 64)] = encA c (j - 1) := by
        have := encA_set hj1 hj
        rw [hq] at this
        rw [← this]; simp [byV]
      have hn : c / 64 ^ (wd c - 1 - (j - 1)) = q / 64 := by rw [← hq, Nat.div_div_eq_div_mul, ← Nat.pow_succ, show wd c - 1 - (j - 1) = wd c - 1 - j + 1 by omega]
      (try (refine st ?_; intros))
      rw [he]
      refine WQ.next (j - 1) ⟨rfl, rfl, rfl, rfl, by omega⟩ (by omega) ?_ (fun w h => h)
      rw [hn, show ((j - 1 : Nat) : Int) = (j : Int) - 1 by omega]
      (repeat (first | exact Env.Sub.nil | refine Env.Sub.cons rfl ?_))
    · obtain rfl : j = 0 := by omega
      obtain ⟨p, hp, hqp, hp6⟩ := enc_head hc (by omega)
      rw [Nat.sub_zero] at hq
      rw [hq] at hqp
      have hfin : (encA c 0).set 0 [Value.int .u8 (256 - (p : Int) + q)] = (fmb c).map fun b => [Value.int .u8 (b.toNat : Int)] := by
        rw [bytes_fm hc, fm_head c (by omega), hq, hp]
        simp [encA, byV]
        omega
      (try (refine st ?_; intros))
      apply WL.shl (e := 8 - wd c)
      · exact rfl
      · exact rfl
      · omega
      · simp [IntKind.bits]; omega
      · exact rfl
      refine WL.rename 36 (u := .int .i64 (p : Int)) rfl (vi ?_) ?_
      · rw [IntKind.wrap_i64, show (1 * 2 ^ (8 - wd c) : Int) = (p : Int) by rw [← hp]; simp]; omega
      (try (refine st ?_; intros))
      rw [hfin]
      apply WL.rowStr (s := fmb c)
      · exact rfl
      · rw [fmb_length]
      · (repeat (first | exact List.Mem.head _ | apply List.Mem.tail))
      · exact rfl
      · exact rfl
      · exact rfl
      · exact rfl
      · exact rfl
      (try (refine st ?_; intros))
      (refine q_fin0 ?_)
      exact Gives.mk rfl
end Go.Proofs.Ytieangfnjflfmaa

/-
  The walks of package runes and of its reference, fourth part: the piece at a place. No condition.
-/
namespace Go.Proofs.Ytieangfnjflfmaa
open Go Go.Eng
set_option maxRecDepth 100000
set_option maxHeartbeats 4000000
set_option linter.all false
attribute [local irreducible] WL WC WQ QFun QLoop Does Q1 QRound QAssign Go.Addr.add
theorem sq_DR2_1 {G : Prop} (h : G := by (repeat (first | (refine sp ?_; (repeat intro zzc)) | (refine iF 79 rfl ?_; refine w_callG Try.func79 ?_ (hs := read_any _ _ (by omega) (by omega) _ _ _)) | (refine iF 91 rfl ?_; refine w_callG Try.func91 ?_ (hs := none_any _ _ _ _)) | (refine iF 92 rfl ?_; refine w_callG Try.func92 ?_ (hs := rwidth_any _ _ _ _)) | (refine iF 93 rfl ?_; refine w_callG Try.func93 ?_ (hs := rencode_any _ _ _ _)))); exact WQ.q1 rfl) : G := h
theorem st_DR2_1 {G G' : Prop} (next : G') (h : Bx G' → G := by intro zzn; (first | ((refine st ?_; (repeat intro zzc)); (try ((first | (refine iF 79 rfl ?_; refine w_callG Try.func79 ?_ (hs := read_any _ _ (by omega) (by omega) _ _ _)) | (refine iF 91 rfl ?_; refine w_callG Try.func91 ?_ (hs := none_any _ _ _ _)) | (refine iF 92 rfl ?_; refine w_callG Try.func92 ?_ (hs := rwidth_any _ _ _ _)) | (refine iF 93 rfl ?_; refine w_callG Try.func93 ?_ (hs := rencode_any _ _ _ _)) | ((refine iDraw ?_; (first | refine WC.drawAll rfl (by decide +kernel) ?_ | refine WC.draw 1 rfl (by decide +kernel) ?_ | refine WC.draw 2 rfl (by decide +kernel) ?_ | refine WC.draw 3 rfl (by decide +kernel) ?_ | refine WC.draw 4 rfl (by decide +kernel) ?_ | refine WC.draw 5 rfl (by decide +kernel) ?_ | refine WC.draw 6 rfl (by decide +kernel) ?_ | refine WC.draw 7 rfl (by decide +kernel) ?_ | refine WC.draw 8 rfl (by decide +kernel) ?_ | refine WC.draw 9 rfl (by decide +kernel) ?_ | refine WC.draw 10 rfl (by decide +kernel) ?_ | refine WC.draw 11 rfl (by decide +kernel) ?_ | refine WC.draw 12 rfl (by decide +kernel) ?_ | refine WC.draw 13 rfl (by decide +kernel) ?_ | refine WC.draw 14 rfl (by decide +kernel) ?_ | refine WC.draw 15 rfl (by decide +kernel) ?_ | refine WC.draw 16 rfl (by decide +kernel) ?_ | refine WC.draw 17 rfl (by decide +kernel) ?_ | refine WC.draw 18 rfl (by decide +kernel) ?_ | refine WC.draw 19 rfl (by decide +kernel) ?_ | refine WC.draw 20 rfl (by decide +kernel) ?_ | refine WC.draw 21 rfl (by decide +kernel) ?_ | refine WC.draw 22 rfl (by decide +kernel) ?_ | refine WC.draw 23 rfl (by decide +kernel) ?_ | refine WC.draw 24 rfl (by decide +kernel) ?_)); (repeat (refine WD.cons rfl (fun c h => by cases h) sq_DR2_1 ?_)); refine WD.nil ?_)); (try (refine st ?_; (repeat intro zzc)))))) | ((first | (refine iF 79 rfl ?_; refine w_callG Try.func79 ?_ (hs := read_any _ _ (by omega) (by omega) _ _ _)) | (refine iF 91 rfl ?_; refine w_callG Try.func91 ?_ (hs := none_any _ _ _ _)) | (refine iF 92 rfl ?_; refine w_callG Try.func92 ?_ (hs := rwidth_any _ _ _ _)) | (refine iF 93 rfl ?_; refine w_callG Try.func93 ?_ (hs := rencode_any _ _ _ _)) | ((refine iDraw ?_; (first | refine WC.drawAll rfl (by decide +kernel) ?_ | refine WC.draw 1 rfl (by decide +kernel) ?_ | refine WC.draw 2 rfl (by decide +kernel) ?_ | refine WC.draw 3 rfl (by decide +kernel) ?_ | refine WC.draw 4 rfl (by decide +kernel) ?_ | refine WC.draw 5 rfl (by decide +kernel) ?_ | refine WC.draw 6 rfl (by decide +kernel) ?_ | refine WC.draw 7 rfl (by decide +kernel) ?_ | refine WC.draw 8 rfl (by decide +kernel) ?_ | refine WC.draw 9 rfl (by decide +kernel) ?_ | refine WC.draw 10 rfl (by decide +kernel) ?_ | refine WC.draw 11 rfl (by decide +kernel) ?_ | refine WC.draw 12 rfl (by decide +kernel) ?_ | refine WC.draw 13 rfl (by decide +kernel) ?_ | refine WC.draw 14 rfl (by decide +kernel) ?_ | refine WC.draw 15 rfl (by decide +kernel) ?_ | refine WC.draw 16 rfl (by decide +kernel) ?_ | refine WC.draw 17 rfl (by decide +kernel) ?_ | refine WC.draw 18 rfl (by decide +kernel) ?_ | refine WC.draw 19 rfl (by decide +kernel) ?_ | refine WC.draw 20 rfl (by decide +kernel) ?_ | refine WC.draw 21 rfl (by decide +kernel) ?_ | refine WC.draw 22 rfl (by decide +kernel) ?_ | refine WC.draw 23 rfl (by decide +kernel) ?_ | refine WC.draw 24 rfl (by decide +kernel) ?_)); (repeat (refine WD.cons rfl (fun c h => by cases h) sq_DR2_1 ?_)); refine WD.nil ?_)); (try (refine st ?_; (repeat intro zzc))))); (repeat ((first | (refine iF 79 rfl ?_; refine w_callG Try.func79 ?_ (hs := read_any _ _ (by omega) (by omega) _ _ _)) | (refine iF 91 rfl ?_; refine w_callG Try.func91 ?_ (hs := none_any _ _ _ _)) | (refine iF 92 rfl ?_; refine w_callG Try.func92 ?_ (hs := rwidth_any _ _ _ _)) | (refine iF 93 rfl ?_; refine w_callG Try.func93 ?_ (hs := rencode_any _ _ _ _)) | ((refine iDraw ?_; (first | refine WC.drawAll rfl (by decide +kernel) ?_ | refine WC.draw 1 rfl (by decide +kernel) ?_ | refine WC.draw 2 rfl (by decide +kernel) ?_ | refine WC.draw 3 rfl (by decide +kernel) ?_ | refine WC.draw 4 rfl (by decide +kernel) ?_ | refine WC.draw 5 rfl (by decide +kernel) ?_ | refine WC.draw 6 rfl (by decide +kernel) ?_ | refine WC.draw 7 rfl (by decide +kernel) ?_ | refine WC.draw 8 rfl (by decide +kernel) ?_ | refine WC.draw 9 rfl (by decide +kernel) ?_ | refine WC.draw 10 rfl (by decide +kernel) ?_ | refine WC.draw 11 rfl (by decide +kernel) ?_ | refine WC.draw 12 rfl (by decide +kernel) ?_ | refine WC.draw 13 rfl (by decide +kernel) ?_ | refine WC.draw 14 rfl (by decide +kernel) ?_ | refine WC.draw 15 rfl (by decide +kernel) ?_ | refine WC.draw 16 rfl (by decide +kernel) ?_ | refine WC.draw 17 rfl (by decide +kernel) ?_ | refine WC.draw 18 rfl (by decide +kernel) ?_ | refine WC.draw 19 rfl (by decide +kernel) ?_ | refine WC.draw 20 rfl (by decide +kernel) ?_ | refine WC.draw 21 rfl (by decide +kernel) ?_ | refine WC.draw 22 rfl (by decide +kernel) ?_ | refine WC.draw 23 rfl (by decide +kernel) ?_ | refine WC.draw 24 rfl (by decide +kernel) ?_)); (repeat (refine WD.cons rfl (fun c h => by cases h) sq_DR2_1 ?_)); refine WD.nil ?_)); (try (refine st ?_; (repeat intro zzc))))); (repeat revert zzc); exact zzn.out) : G := h ⟨next⟩
theorem gb_le (l : List UInt8) (k : Nat) : gb l k ≤ 255 := by
  have : ∀ x : UInt8, x.toNat ≤ 255 := fun x => by have := x.toNat_lt; omega
  exact this _
def zeroP : Value := .agg #[.int .i64 0, .int .i64 0, .int .i32 0, .bool false]
/-- the reference's Form: the rune that begins there, and its width; or nothing -/
def formN (l : List UInt8) : Nat × Nat := if dl l = (65533, 1) then (0, 0) else dl l
def cv (l : List UInt8) (n : Nat) : Nat → Int
  | 0 => if n = 1 then (gb l 0 : Int) else (gb l 0 : Int) - (256 - 2 ^ (8 - n))
  | i + 1 => cv l n i * 64 + gb l (i + 1) - 128
theorem cv_bound {l : List UInt8} {n i : Nat} (h1 : 2 ≤ n) (h2 : n ≤ 4) (h3 : i ≤ 3) : -64000000 ≤ cv l n i ∧ cv l n i ≤ 64000000 ∧ (i ≤ 2 → -1000000 ≤ cv l n i ∧ cv l n i ≤ 1000000) := by
  have g0 := gb_le l 0
  have g1 := gb_le l 1
  have g2 := gb_le l 2
  have g3 := gb_le l 3
  have hp : (16 : Int) ≤ 2 ^ (8 - n) ∧ (2 : Int) ^ (8 - n) ≤ 64 := by
    obtain rfl | rfl | rfl : n = 2 ∨ n = 3 ∨ n = 4 := by omega
    all_goals decide
  have c0 : cv l n 0 = (gb l 0 : Int) - (256 - 2 ^ (8 - n)) := by rw [cv, if_neg (by omega)]
  have c1 : cv l n 1 = cv l n 0 * 64 + gb l 1 - 128 := rfl
  have c2 : cv l n 2 = cv l n 1 * 64 + gb l 2 - 128 := rfl
  have c3 : cv l n 3 = cv l n 2 * 64 + gb l 3 - 128 := rfl
  generalize (2 : Int) ^ (8 - n) = p at *
  obtain rfl | rfl | rfl | rfl : i = 0 ∨ i = 1 ∨ i = 2 ∨ i = 3 := by omega
  all_goals omega
theorem cv_of_begins {L : List UInt8} {c : Nat} (hc : okr c) (h : begins L c) : cv L (wd c) (wd c - 1) = (c : Int) := by
  have hc' := okr_le hc
  have g := h.2
  have c0 : cv L (wd c) 0 = if wd c = 1 then (gb L 0 : Int) else (gb L 0 : Int) - (256 - 2 ^ (8 - wd c)) := rfl
  have c1 : cv L (wd c) 1 = cv L (wd c) 0 * 64 + gb L 1 - 128 := rfl
  have c2 : cv L (wd c) 2 = cv L (wd c) 1 * 64 + gb L 2 - 128 := rfl
  have c3 : cv L (wd c) 3 = cv L (wd c) 2 * 64 + gb L 3 - 128 := rfl
  have g0 : 0 < wd c → gb L 0 = (fm c).getD 0 0 := g 0
  have g1 : 1 < wd c → gb L 1 = (fm c).getD 1 0 := g 1
  have g2 : 2 < wd c → gb L 2 = (fm c).getD 2 0 := g 2
  have g3 : 3 < wd c → gb L 3 = (fm c).getD 3 0 := g 3
  unfold fm at g0 g1 g2 g3
  unfold wd at *
  by_cases h3 : c < 128
  · simp only [h3, if_true] at *
    simp at g0
    simp [c0, g0]
  · simp only [h3, if_false] at *
    by_cases h4 : c < 2048
    · simp only [h4, if_true] at *
      simp at g0 g1 c0 ⊢
      rw [c1, c0]; omega
    · simp only [h4, if_false] at *
      by_cases h5 : c < 65536
      · simp only [h5, if_true] at *
        simp at g0 g1 g2 c0 ⊢
        rw [c2, c1, c0]; omega
      · simp only [h5, if_false] at *
        simp at g0 g1 g2 g3 c0 ⊢
        rw [c3, c2, c1, c0]; omega
theorem form_yes {L : List UInt8} {n : Nat} (hv : ¬ Utf8.valid (cv L n (n - 1)) = false) (hw : rwd (cv L n (n - 1)) = n) (hn : n ≤ L.length) (he : fmb (rn (cv L n (n - 1))) = L.take n) : formN L = (rn (cv L n (n - 1)), n) ∧ cv L n (n - 1) = (rn (cv L n (n - 1)) : Int) := by
  generalize cv L n (n - 1) = q at *
  obtain ⟨h1, _⟩ | ⟨_, h2⟩ := rn_cases q
  · exact absurd h1 hv
  have hok := rn_ok q
  generalize rn q = c at *
  subst h2
  rw [rwd_okr hok] at hw
  subst hw
  have hd := dl_of_begins hok ((begins_iff L c (okr_le hok)).2 he.symm)
  refine ⟨?_, rfl⟩
  rw [formN, if_neg, hd]
  rw [hd]
  intro h
  have h1 : c = 65533 := congrArg Prod.fst h
  have h2 : wd c = 1 := congrArg Prod.snd h
  rw [h1] at h2
  cases h2
theorem form_no {L : List UInt8} {n : Nat} (h : ¬ (¬ Utf8.valid (cv L n (n - 1)) = false ∧ rwd (cv L n (n - 1)) = n ∧ fmb (rn (cv L n (n - 1))) = L.take n)) : ∀ c, okr c → wd c = n → ¬ begins L c := by
  rintro c hok rfl hb
  have hcv := cv_of_begins hok hb
  apply h
  rw [hcv, rwd_okr hok, rn_nat hok, (valid_nat c).2 hok]
  exact ⟨by simp, rfl, ((begins_iff L c (okr_le hok)).1 hb).symm⟩
theorem form_any (l : List UInt8) (k : Nat) (hl : l.length ≤ 9223372036854775804) (hk : k < l.length) (w0 : World) (m : Mem) (H : SHeap) :
    Does Try.prog 88 #[str l, .int .i64 (k : Int)] w0 m H (Gives (.tuple #[.int .i32 ((formN (l.drop k)).1 : Int), .int .i64 ((formN (l.drop k)).2 : Int)]) m H) := by
  refine Does.of_body (args := [str l, .int .i64 (k : Int)]) Try.func88 rfl Try.ntmps88 rfl ?_
  (try (refine st_DR2_1 ?_; intros))
  refine WC.loopW [(6, .int .i64 1), (0, str l), (1, .int .i64 (k : Int))] ?_ (fun j r ds m' H' => ∃ n : Nat, j = 5 - n ∧ 1 ≤ n ∧ n ≤ 5 ∧ r = [(6, .int .i64 (n : Int)), (0, str l), (1, .int .i64 (k : Int))] ∧ ds = [] ∧ m' = m ∧ H' = H ∧ ∀ c, okr c → wd c < n → ¬ begins (l.drop k) c) 4
    ⟨1, rfl, by omega, by omega, rfl, rfl, rfl, rfl, fun c _ h => by have := wd_pos c; omega⟩ ?_
  · (repeat (first | exact Env.Sub.nil | refine Env.Sub.cons rfl ?_))
  rintro j r ds m' H' ⟨n, rfl, h1, h2, rfl, rfl, rfl, rfl, hno⟩
  have hb := gb_le l k
  generalize hL : l.drop k = L at hno ⊢
  have hLl : L.length = l.length - k := by rw [← hL, List.length_drop]
  have hg : ∀ i, gb L i = gb l (k + i) := fun i => by rw [← hL]; exact nb_drop l k i
  have hg0 : gb L 0 = gb l k := hg 0
  (try (refine st_DR2_1 ?_; intros))
  (first | refine c_ways (fun h3 => ?_) (fun h3 => ?_) | refine c_nways (fun h3 => ?_) (fun h3 => ?_) | refine w_gways (fun h3 => ?_) (fun h3 => ?_) | refine w_gnways (fun h3 => ?_) (fun h3 => ?_))
  · (try (refine st_DR2_1 ?_; intros))
    (first | refine c_ways (fun h4 => ?_) (fun h4 => ?_) | refine c_nways (fun h4 => ?_) (fun h4 => ?_) | refine w_gways (fun h4 => ?_) (fun h4 => ?_) | refine w_gnways (fun h4 => ?_) (fun h4 => ?_))
    · (try (refine st_DR2_1 ?_; intros))
      refine WC.join (fun r' ds' m1 H1 => r' = [(6, .int .i64 (n : Int)), (0, str l), (1, .int .i64 (k : Int)), (7, .int .i32 (cv L n 0))] ∧ ds' = [] ∧ m1 = m' ∧ H1 = H') ?_ ?_
      · (try (refine st_DR2_1 ?_; intros))
        (first | refine c_ways (fun h5 => ?_) (fun h5 => ?_) | refine c_nways (fun h5 => ?_) (fun h5 => ?_) | refine w_gways (fun h5 => ?_) (fun h5 => ?_) | refine w_gnways (fun h5 => ?_) (fun h5 => ?_))
        · (try (refine st_DR2_1 ?_; intros))
          apply WL.shl (e := 8 - n)
          · exact rfl
          · exact rfl
          · omega
          · simp [IntKind.bits]; omega
          · exact rfl
          obtain ⟨p, hp, hp1, hp2⟩ : ∃ p : Nat, p = 2 ^ (8 - n) ∧ 16 ≤ p ∧ p ≤ 64 := by
            obtain rfl | rfl | rfl : n = 2 ∨ n = 3 ∨ n = 4 := by omega
            all_goals exact ⟨_, rfl, by decide, by decide⟩
          refine WL.rename 30 (u := .int .i32 (p : Int)) rfl (vi ?_) ?_
          · rw [IntKind.wrap_i32, show (1 * 2 ^ (8 - n) : Int) = (p : Int) by rw [hp]; simp]; omega
          (try (refine st_DR2_1 ?_; intros))
          refine WQ.join ⟨rfl, rfl, rfl, rfl⟩ ?_ (fun w h => h)
          rw [cv, if_neg (by omega), hg0, show (2 ^ (8 - n) : Int) = (p : Int) by rw [hp]; simp]
          (repeat (first | exact Env.Sub.nil | refine Env.Sub.cons rfl ?_))
        · (try (refine st_DR2_1 ?_; intros))
          refine WQ.join ⟨rfl, rfl, rfl, rfl⟩ ?_ (fun w h => h)
          rw [cv, if_pos (by omega), hg0]
          (repeat (first | exact Env.Sub.nil | refine Env.Sub.cons rfl ?_))
      rintro _ _ m' H' ⟨rfl, rfl, rfl, rfl⟩
      (try (refine st_DR2_1 ?_; intros))
      refine WC.loopW [(8, .int .i64 1), (6, .int .i64 (n : Int)), (0, str l), (1, .int .i64 (k : Int)), (7, .int .i32 (cv L n 0))] ?_ (fun j r ds m1 H1 => ∃ i : Nat, j = n - i ∧ 1 ≤ i ∧ i ≤ n ∧ r = [(8, .int .i64 (i : Int)), (6, .int .i64 (n : Int)), (0, str l), (1, .int .i64 (k : Int)), (7, .int .i32 (cv L n (i - 1)))] ∧ ds = [] ∧ m1 = m' ∧ H1 = H') (n - 1)
        ⟨1, rfl, by omega, by omega, rfl, rfl, rfl, rfl⟩ ?_
      · (repeat (first | exact Env.Sub.nil | refine Env.Sub.cons rfl ?_))
      rintro j r ds m1 H1 ⟨i, rfl, hi1, hi2, rfl, rfl, rfl, rfl⟩
      (try (refine st_DR2_1 ?_; intros))
      (first | refine c_ways (fun h5 => ?_) (fun h5 => ?_) | refine c_nways (fun h5 => ?_) (fun h5 => ?_) | refine w_gways (fun h5 => ?_) (fun h5 => ?_) | refine w_gnways (fun h5 => ?_) (fun h5 => ?_))
      · have hcb := cv_bound (l := L) (n := n) (i := i - 1) (by omega) (by omega) (by omega)
        have hcs : cv L n i = cv L n (i - 1) * 64 + gb l (k + i) - 128 := by
          obtain ⟨i', rfl⟩ : ∃ i', i = i' + 1 := ⟨i - 1, by omega⟩
          rw [← hg]; rfl
        generalize cv L n (i - 1) = q at *
        have hb2 := gb_le l (k + i)
        (try (refine st_DR2_1 ?_; intros))
        rw [← hcs]
        refine WQ.next (n - (i + 1)) ⟨i + 1, rfl, by omega, by omega, rfl, rfl, rfl, rfl⟩ (by omega) ?_ (fun w h => h)
        rw [Nat.add_sub_cancel]
        (repeat (first | exact Env.Sub.nil | refine Env.Sub.cons rfl ?_))
      · obtain rfl : i = n := by omega
        have hA := form_yes (L := L) (n := i)
        have hB := form_no (L := L) (n := i)
        generalize cv L i (i - 1) = q at *
        have hsl : (l.take (k + i)).drop k = L.take i := by rw [take_drop_swap, hL]
        by_cases hv : Utf8.valid q = false
        · (try (refine st_DR2_1 ?_; intros))
          exact WQ.next (5 - (i + 1)) ⟨i + 1, rfl, by omega, by omega, rfl, rfl, rfl, rfl, fun c hc hcw => by
            rcases Nat.lt_or_ge (wd c) i with h | h
            · exact hno c hc h
            · exact hB (fun h => h.1 hv) c hc (by omega)⟩ (by omega) zsb (fun w h => h)
        · by_cases hw : rwd q = i
          · (try (refine st_DR2_1 ?_; intros))
            (first | refine c_ways (fun h6 => ?_) (fun h6 => ?_) | refine c_nways (fun h6 => ?_) (fun h6 => ?_) | refine w_gways (fun h6 => ?_) (fun h6 => ?_) | refine w_gnways (fun h6 => ?_) (fun h6 => ?_))
            · obtain ⟨e1, e2⟩ := hA hv hw (by omega) (by rw [← hsl]; exact h6)
              (try (refine st_DR2_1 ?_; intros))
              (refine q_fin0 ?_)
              rw [e1, ← e2]
              exact Gives.mk rfl
            · (try (refine st_DR2_1 ?_; intros))
              exact WQ.next (5 - (i + 1)) ⟨i + 1, rfl, by omega, by omega, rfl, rfl, rfl, rfl, fun c hc hcw => by
            rcases Nat.lt_or_ge (wd c) i with h | h
            · exact hno c hc h
            · exact hB (fun h => h6 (by rw [hsl]; exact h.2.2)) c hc (by omega)⟩ (by omega) zsb (fun w h => h)
          · (try (refine st_DR2_1 ?_; intros))
            exact WQ.next (5 - (i + 1)) ⟨i + 1, rfl, by omega, by omega, rfl, rfl, rfl, rfl, fun c hc hcw => by
            rcases Nat.lt_or_ge (wd c) i with h | h
            · exact hno c hc h
            · exact hB (fun h => hw h.2.1) c hc (by omega)⟩ (by omega) zsb (fun w h => h)
    · (try (refine st_DR2_1 ?_; intros))
      (refine q_fin0 ?_)
      have : formN L = (0, 0) := by
        rcases dl_cases L (by omega) with ⟨g1, g2, g3⟩ | ⟨g1, _⟩
        · exact absurd g3 (hno _ g1 (by have := g3.1; omega))
        · rw [formN, if_pos g1]
      rw [this]
      exact Gives.mk rfl
  · (try (refine st_DR2_1 ?_; intros))
    (refine q_fin0 ?_)
    have : formN L = (0, 0) := by
      rcases dl_cases L (by omega) with ⟨g1, g2, g3⟩ | ⟨g1, _⟩
      · exact absurd g3 (hno _ g1 (by have := wd_pos (dl L).1; omega))
      · rw [formN, if_pos g1]
    rw [this]
    exact Gives.mk rfl
end Go.Proofs.Ytieangfnjflfmaa

/-
  The walks of package runes and of its reference, fifth part: the pieces of a text, the last of them, their number. No condition.
-/
namespace Go.Proofs.Ytieangfnjflfmaa
open Go Go.Eng
set_option maxRecDepth 100000
set_option maxHeartbeats 4000000
set_option linter.all false
attribute [local irreducible] WL WC WQ QFun QLoop Does Q1 QRound QAssign Go.Addr.add
theorem sq_DR3_1 {G : Prop} (h : G := by (repeat (first | (refine sp ?_; (repeat intro zzc)) | (refine iF 79 rfl ?_; refine w_callG Try.func79 ?_ (hs := read_z _ (by (first | with_reducible exact natz _ | with_reducible exact natz0 | with_reducible exact natz1 | with_reducible exact natz2 | with_reducible exact natz3 | with_reducible exact natz4 | with_reducible exact natz8 | (apply natz_add; (· first | with_reducible exact natz _ | with_reducible exact natz0 | with_reducible exact natz1 | with_reducible exact natz2 | with_reducible exact natz3 | with_reducible exact natz4 | with_reducible exact natz8); (· first | with_reducible exact natz _ | with_reducible exact natz0 | with_reducible exact natz1 | with_reducible exact natz2 | with_reducible exact natz3 | with_reducible exact natz4 | with_reducible exact natz8)) | (apply natz_sub; (· first | with_reducible exact natz _ | with_reducible exact natz0 | with_reducible exact natz1 | with_reducible exact natz2 | with_reducible exact natz3 | with_reducible exact natz4 | with_reducible exact natz8); (· first | with_reducible exact natz _ | with_reducible exact natz0 | with_reducible exact natz1 | with_reducible exact natz2 | with_reducible exact natz3 | with_reducible exact natz4 | with_reducible exact natz8); (· omega)) | exact (Int.toNat_of_nonneg (by omega)).symm)) (by omega) (by omega) _ _ _)) | (refine iF 88 rfl ?_; refine w_callG Try.func88 ?_ (hs := form_any _ _ (by omega) (by omega) _ _ _)))); exact WQ.q1 rfl) : G := h
theorem st_DR3_1 {G G' : Prop} (next : G') (h : Bx G' → G := by intro zzn; (first | ((refine st ?_; (repeat intro zzc)); (try ((first | (refine iF 79 rfl ?_; refine w_callG Try.func79 ?_ (hs := read_z _ (by (first | with_reducible exact natz _ | with_reducible exact natz0 | with_reducible exact natz1 | with_reducible exact natz2 | with_reducible exact natz3 | with_reducible exact natz4 | with_reducible exact natz8 | (apply natz_add; (· first | with_reducible exact natz _ | with_reducible exact natz0 | with_reducible exact natz1 | with_reducible exact natz2 | with_reducible exact natz3 | with_reducible exact natz4 | with_reducible exact natz8); (· first | with_reducible exact natz _ | with_reducible exact natz0 | with_reducible exact natz1 | with_reducible exact natz2 | with_reducible exact natz3 | with_reducible exact natz4 | with_reducible exact natz8)) | (apply natz_sub; (· first | with_reducible exact natz _ | with_reducible exact natz0 | with_reducible exact natz1 | with_reducible exact natz2 | with_reducible exact natz3 | with_reducible exact natz4 | with_reducible exact natz8); (· first | with_reducible exact natz _ | with_reducible exact natz0 | with_reducible exact natz1 | with_reducible exact natz2 | with_reducible exact natz3 | with_reducible exact natz4 | with_reducible exact natz8); (· omega)) | exact (Int.toNat_of_nonneg (by omega)).symm)) (by omega) (by omega) _ _ _)) | (refine iF 88 rfl ?_; refine w_callG Try.func88 ?_ (hs := form_any _ _ (by omega) (by omega) _ _ _)) | ((refine iDraw ?_; (first | refine WC.drawAll rfl (by decide +kernel) ?_ | refine WC.draw 1 rfl (by decide +kernel) ?_ | refine WC.draw 2 rfl (by decide +kernel) ?_ | refine WC.draw 3 rfl (by decide +kernel) ?_ | refine WC.draw 4 rfl (by decide +kernel) ?_ | refine WC.draw 5 rfl (by decide +kernel) ?_ | refine WC.draw 6 rfl (by decide +kernel) ?_ | refine WC.draw 7 rfl (by decide +kernel) ?_ | refine WC.draw 8 rfl (by decide +kernel) ?_ | refine WC.draw 9 rfl (by decide +kernel) ?_ | refine WC.draw 10 rfl (by decide +kernel) ?_ | refine WC.draw 11 rfl (by decide +kernel) ?_ | refine WC.draw 12 rfl (by decide +kernel) ?_ | refine WC.draw 13 rfl (by decide +kernel) ?_ | refine WC.draw 14 rfl (by decide +kernel) ?_ | refine WC.draw 15 rfl (by decide +kernel) ?_ | refine WC.draw 16 rfl (by decide +kernel) ?_ | refine WC.draw 17 rfl (by decide +kernel) ?_ | refine WC.draw 18 rfl (by decide +kernel) ?_ | refine WC.draw 19 rfl (by decide +kernel) ?_ | refine WC.draw 20 rfl (by decide +kernel) ?_ | refine WC.draw 21 rfl (by decide +kernel) ?_ | refine WC.draw 22 rfl (by decide +kernel) ?_ | refine WC.draw 23 rfl (by decide +kernel) ?_ | refine WC.draw 24 rfl (by decide +kernel) ?_)); (repeat (refine WD.cons rfl (fun c h => by cases h) sq_DR3_1 ?_)); refine WD.nil ?_)); (try (refine st ?_; (repeat intro zzc)))))) | ((first | (refine iF 79 rfl ?_; refine w_callG Try.func79 ?_ (hs := read_z _ (by (first | with_reducible exact natz _ | with_reducible exact natz0 | with_reducible exact natz1 | with_reducible exact natz2 | with_reducible exact natz3 | with_reducible exact natz4 | with_reducible exact natz8 | (apply natz_add; (· first | with_reducible exact natz _ | with_reducible exact natz0 | with_reducible exact natz1 | with_reducible exact natz2 | with_reducible exact natz3 | with_reducible exact natz4 | with_reducible exact natz8); (· first | with_reducible exact natz _ | with_reducible exact natz0 | with_reducible exact natz1 | with_reducible exact natz2 | with_reducible exact natz3 | with_reducible exact natz4 | with_reducible exact natz8)) | (apply natz_sub; (· first | with_reducible exact natz _ | with_reducible exact natz0 | with_reducible exact natz1 | with_reducible exact natz2 | with_reducible exact natz3 | with_reducible exact natz4 | with_reducible exact natz8); (· first | with_reducible exact natz _ | with_reducible exact natz0 | with_reducible exact natz1 | with_reducible exact natz2 | with_reducible exact natz3 | with_reducible exact natz4 | with_reducible exact natz8); (· omega)) | exact (Int.toNat_of_nonneg (by omega)).symm)) (by omega) (by omega) _ _ _)) | (refine iF 88 rfl ?_; refine w_callG Try.func88 ?_ (hs := form_any _ _ (by omega) (by omega) _ _ _)) | ((refine iDraw ?_; (first | refine WC.drawAll rfl (by decide +kernel) ?_ | refine WC.draw 1 rfl (by decide +kernel) ?_ | refine WC.draw 2 rfl (by decide +kernel) ?_ | refine WC.draw 3 rfl (by decide +kernel) ?_ | refine WC.draw 4 rfl (by decide +kernel) ?_ | refine WC.draw 5 rfl (by decide +kernel) ?_ | refine WC.draw 6 rfl (by decide +kernel) ?_ | refine WC.draw 7 rfl (by decide +kernel) ?_ | refine WC.draw 8 rfl (by decide +kernel) ?_ | refine WC.draw 9 rfl (by decide +kernel) ?_ | refine WC.draw 10 rfl (by decide +kernel) ?_ | refine WC.draw 11 rfl (by decide +kernel) ?_ | refine WC.draw 12 rfl (by decide +kernel) ?_ | refine WC.draw 13 rfl (by decide +kernel) ?_ | refine WC.draw 14 rfl (by decide +kernel) ?_ | refine WC.draw 15 rfl (by decide +kernel) ?_ | refine WC.draw 16 rfl (by decide +kernel) ?_ | refine WC.draw 17 rfl (by decide +kernel) ?_ | refine WC.draw 18 rfl (by decide +kernel) ?_ | refine WC.draw 19 rfl (by decide +kernel) ?_ | refine WC.draw 20 rfl (by decide +kernel) ?_ | refine WC.draw 21 rfl (by decide +kernel) ?_ | refine WC.draw 22 rfl (by decide +kernel) ?_ | refine WC.draw 23 rfl (by decide +kernel) ?_ | refine WC.draw 24 rfl (by decide +kernel) ?_)); (repeat (refine WD.cons rfl (fun c h => by cases h) sq_DR3_1 ?_)); refine WD.nil ?_)); (try (refine st ?_; (repeat intro zzc))))); (repeat ((first | (refine iF 79 rfl ?_; refine w_callG Try.func79 ?_ (hs := read_z _ (by (first | with_reducible exact natz _ | with_reducible exact natz0 | with_reducible exact natz1 | with_reducible exact natz2 | with_reducible exact natz3 | with_reducible exact natz4 | with_reducible exact natz8 | (apply natz_add; (· first | with_reducible exact natz _ | with_reducible exact natz0 | with_reducible exact natz1 | with_reducible exact natz2 | with_reducible exact natz3 | with_reducible exact natz4 | with_reducible exact natz8); (· first | with_reducible exact natz _ | with_reducible exact natz0 | with_reducible exact natz1 | with_reducible exact natz2 | with_reducible exact natz3 | with_reducible exact natz4 | with_reducible exact natz8)) | (apply natz_sub; (· first | with_reducible exact natz _ | with_reducible exact natz0 | with_reducible exact natz1 | with_reducible exact natz2 | with_reducible exact natz3 | with_reducible exact natz4 | with_reducible exact natz8); (· first | with_reducible exact natz _ | with_reducible exact natz0 | with_reducible exact natz1 | with_reducible exact natz2 | with_reducible exact natz3 | with_reducible exact natz4 | with_reducible exact natz8); (· omega)) | exact (Int.toNat_of_nonneg (by omega)).symm)) (by omega) (by omega) _ _ _)) | (refine iF 88 rfl ?_; refine w_callG Try.func88 ?_ (hs := form_any _ _ (by omega) (by omega) _ _ _)) | ((refine iDraw ?_; (first | refine WC.drawAll rfl (by decide +kernel) ?_ | refine WC.draw 1 rfl (by decide +kernel) ?_ | refine WC.draw 2 rfl (by decide +kernel) ?_ | refine WC.draw 3 rfl (by decide +kernel) ?_ | refine WC.draw 4 rfl (by decide +kernel) ?_ | refine WC.draw 5 rfl (by decide +kernel) ?_ | refine WC.draw 6 rfl (by decide +kernel) ?_ | refine WC.draw 7 rfl (by decide +kernel) ?_ | refine WC.draw 8 rfl (by decide +kernel) ?_ | refine WC.draw 9 rfl (by decide +kernel) ?_ | refine WC.draw 10 rfl (by decide +kernel) ?_ | refine WC.draw 11 rfl (by decide +kernel) ?_ | refine WC.draw 12 rfl (by decide +kernel) ?_ | refine WC.draw 13 rfl (by decide +kernel) ?_ | refine WC.draw 14 rfl (by decide +kernel) ?_ | refine WC.draw 15 rfl (by decide +kernel) ?_ | refine WC.draw 16 rfl (by decide +kernel) ?_ | refine WC.draw 17 rfl (by decide +kernel) ?_ | refine WC.draw 18 rfl (by decide +kernel) ?_ | refine WC.draw 19 rfl (by decide +kernel) ?_ | refine WC.draw 20 rfl (by decide +kernel) ?_ | refine WC.draw 21 rfl (by decide +kernel) ?_ | refine WC.draw 22 rfl (by decide +kernel) ?_ | refine WC.draw 23 rfl (by decide +kernel) ?_ | refine WC.draw 24 rfl (by decide +kernel) ?_)); (repeat (refine WD.cons rfl (fun c h => by cases h) sq_DR3_1 ?_)); refine WD.nil ?_)); (try (refine st ?_; (repeat intro zzc))))); (repeat revert zzc); exact zzn.out) : G := h ⟨next⟩
theorem read_z (l : List UInt8) {z : Int} {k : Nat} (hz : z = (k : Int)) (hl : l.length ≤ 9223372036854775804) (hk : k < l.length) (w0 : World) (m : Mem) (H : SHeap) :
    Does Try.prog 79 #[str l, .int .i64 z] w0 m H (Gives (readP l k).v m H) := by subst hz; exact read_any l k hl hk w0 m H
theorem refAt_any (l : List UInt8) (k : Nat) (hl : l.length ≤ 9223372036854775804) (hk : k < l.length) (w0 : World) (m : Mem) (H : SHeap) :
    Does Try.prog 81 #[str l, .int .i64 (k : Int)] w0 m H (Gives (readP l k).v m H) := by
  refine Does.of_body (args := [str l, .int .i64 (k : Int)]) Try.func81 rfl Try.ntmps81 rfl ?_
  have hc := dl_cases (l.drop k) (by simp; omega)
  by_cases hA : dl (l.drop k) = (65533, 1)
  · have h1 : formN (l.drop k) = (0, 0) := by rw [formN, if_pos hA]
    have h2 : readP l k = ⟨k, 1, 65533, true⟩ := by unfold readP; rw [if_pos hA]
    rw [h2]
    (try (refine st_DR3_1 ?_; intros))
    rw [h1]
    (try (refine st_DR3_1 ?_; intros))
    (refine q_fin0 ?_)
    exact Gives.mk rfl
  · have h1 : formN (l.drop k) = dl (l.drop k) := by rw [formN, if_neg hA]
    have h2 : readP l k = ⟨k, (dl (l.drop k)).2, (dl (l.drop k)).1, false⟩ := by unfold readP; rw [if_neg hA]
    have hw := readP_w hk
    rw [readP_w_eq] at hw
    rw [h2]
    (try (refine st_DR3_1 ?_; intros))
    rw [h1]
    (try (refine st_DR3_1 ?_; intros))
    (refine q_fin0 ?_)
    exact Gives.mk rfl
theorem sq_DR3_2 {G : Prop} (h : G := by (repeat (first | (refine sp ?_; (repeat intro zzc)) | (refine iF 79 rfl ?_; refine w_callG Try.func79 ?_ (hs := read_z _ (by (first | with_reducible exact natz _ | with_reducible exact natz0 | with_reducible exact natz1 | with_reducible exact natz2 | with_reducible exact natz3 | with_reducible exact natz4 | with_reducible exact natz8 | (apply natz_add; (· first | with_reducible exact natz _ | with_reducible exact natz0 | with_reducible exact natz1 | with_reducible exact natz2 | with_reducible exact natz3 | with_reducible exact natz4 | with_reducible exact natz8); (· first | with_reducible exact natz _ | with_reducible exact natz0 | with_reducible exact natz1 | with_reducible exact natz2 | with_reducible exact natz3 | with_reducible exact natz4 | with_reducible exact natz8)) | (apply natz_sub; (· first | with_reducible exact natz _ | with_reducible exact natz0 | with_reducible exact natz1 | with_reducible exact natz2 | with_reducible exact natz3 | with_reducible exact natz4 | with_reducible exact natz8); (· first | with_reducible exact natz _ | with_reducible exact natz0 | with_reducible exact natz1 | with_reducible exact natz2 | with_reducible exact natz3 | with_reducible exact natz4 | with_reducible exact natz8); (· omega)) | exact (Int.toNat_of_nonneg (by omega)).symm)) (by omega) (by omega) _ _ _)) | (refine iF 88 rfl ?_; refine w_callG Try.func88 ?_ (hs := form_any _ _ (by omega) (by omega) _ _ _)) | (refine iF 81 rfl ?_; refine w_callG Try.func81 ?_ (hs := refAt_any _ _ (by omega) (by omega) _ _ _)))); exact WQ.q1 rfl) : G := h
theorem st_DR3_2 {G G' : Prop} (next : G') (h : Bx G' → G := by intro zzn; (first | ((refine st ?_; (repeat intro zzc)); (try ((first | (refine iF 79 rfl ?_; refine w_callG Try.func79 ?_ (hs := read_z _ (by (first | with_reducible exact natz _ | with_reducible exact natz0 | with_reducible exact natz1 | with_reducible exact natz2 | with_reducible exact natz3 | with_reducible exact natz4 | with_reducible exact natz8 | (apply natz_add; (· first | with_reducible exact natz _ | with_reducible exact natz0 | with_reducible exact natz1 | with_reducible exact natz2 | with_reducible exact natz3 | with_reducible exact natz4 | with_reducible exact natz8); (· first | with_reducible exact natz _ | with_reducible exact natz0 | with_reducible exact natz1 | with_reducible exact natz2 | with_reducible exact natz3 | with_reducible exact natz4 | with_reducible exact natz8)) | (apply natz_sub; (· first | with_reducible exact natz _ | with_reducible exact natz0 | with_reducible exact natz1 | with_reducible exact natz2 | with_reducible exact natz3 | with_reducible exact natz4 | with_reducible exact natz8); (· first | with_reducible exact natz _ | with_reducible exact natz0 | with_reducible exact natz1 | with_reducible exact natz2 | with_reducible exact natz3 | with_reducible exact natz4 | with_reducible exact natz8); (· omega)) | exact (Int.toNat_of_nonneg (by omega)).symm)) (by omega) (by omega) _ _ _)) | (refine iF 88 rfl ?_; refine w_callG Try.func88 ?_ (hs := form_any _ _ (by omega) (by omega) _ _ _)) | (refine iF 81 rfl ?_; refine w_callG Try.func81 ?_ (hs := refAt_any _ _ (by omega) (by omega) _ _ _)) | ((refine iDraw ?_; (first | refine WC.drawAll rfl (by decide +kernel) ?_ | refine WC.draw 1 rfl (by decide +kernel) ?_ | refine WC.draw 2 rfl (by decide +kernel) ?_ | refine WC.draw 3 rfl (by decide +kernel) ?_ | refine WC.draw 4 rfl (by decide +kernel) ?_ | refine WC.draw 5 rfl (by decide +kernel) ?_ | refine WC.draw 6 rfl (by decide +kernel) ?_ | refine WC.draw 7 rfl (by decide +kernel) ?_ | refine WC.draw 8 rfl (by decide +kernel) ?_ | refine WC.draw 9 rfl (by decide +kernel) ?_ | refine WC.draw 10 rfl (by decide +kernel) ?_ | refine WC.draw 11 rfl (by decide +kernel) ?_ | refine WC.draw 12 rfl (by decide +kernel) ?_ | refine WC.draw 13 rfl (by decide +kernel) ?_ | refine WC.draw 14 rfl (by decide +kernel) ?_ | refine WC.draw 15 rfl (by decide +kernel) ?_ | refine WC.draw 16 rfl (by decide +kernel) ?_ | refine WC.draw 17 rfl (by decide +kernel) ?_ | refine WC.draw 18 rfl (by decide +kernel) ?_ | refine WC.draw 19 rfl (by decide +kernel) ?_ | refine WC.draw 20 rfl (by decide +kernel) ?_ | refine WC.draw 21 rfl (by decide +kernel) ?_ | refine WC.draw 22 rfl (by decide +kernel) ?_ | refine WC.draw 23 rfl (by decide +kernel) ?_ | refine WC.draw 24 rfl (by decide +kernel) ?_)); (repeat (refine WD.cons rfl (fun c h => by cases h) sq_DR3_2 ?_)); refine WD.nil ?_)); (try (refine st ?_; (repeat intro zzc)))))) | ((first | (refine iF 79 rfl ?_; refine w_callG Try.func79 ?_ (hs := read_z _ (by (first | with_reducible exact natz _ | with_reducible exact natz0 | with_reducible exact natz1 | with_reducible exact natz2 | with_reducible exact natz3 | with_reducible exact natz4 | with_reducible exact natz8 | (apply natz_add; (· first | with_reducible exact natz _ | with_reducible exact natz0 | with_reducible exact natz1 | with_reducible exact natz2 | with_reducible exact natz3 | with_reducible exact natz4 | with_reducible exact natz8); (· first | with_reducible exact natz _ | with_reducible exact natz0 | with_reducible exact natz1 | with_reducible exact natz2 | with_reducible exact natz3 | with_reducible exact natz4 | with_reducible exact natz8)) | (apply natz_sub; (· first | with_reducible exact natz _ | with_reducible exact natz0 | with_reducible exact natz1 | with_reducible exact natz2 | with_reducible exact natz3 | with_reducible exact natz4 | with_reducible exact natz8); (· first | with_reducible exact natz _ | with_reducible exact natz0 | with_reducible exact natz1 | with_reducible exact natz2 | with_reducible exact natz3 | with_reducible exact natz4 | with_reducible exact natz8); (· omega)) | exact (Int.toNat_of_nonneg (by omega)).symm)) (by omega) (by omega) _ _ _)) | (refine iF 88 rfl ?_; refine w_callG Try.func88 ?_ (hs := form_any _ _ (by omega) (by omega) _ _ _)) | (refine iF 81 rfl ?_; refine w_callG Try.func81 ?_ (hs := refAt_any _ _ (by omega) (by omega) _ _ _)) | ((refine iDraw ?_; (first | refine WC.drawAll rfl (by decide +kernel) ?_ | refine WC.draw 1 rfl (by decide +kernel) ?_ | refine WC.draw 2 rfl (by decide +kernel) ?_ | refine WC.draw 3 rfl (by decide +kernel) ?_ | refine WC.draw 4 rfl (by decide +kernel) ?_ | refine WC.draw 5 rfl (by decide +kernel) ?_ | refine WC.draw 6 rfl (by decide +kernel) ?_ | refine WC.draw 7 rfl (by decide +kernel) ?_ | refine WC.draw 8 rfl (by decide +kernel) ?_ | refine WC.draw 9 rfl (by decide +kernel) ?_ | refine WC.draw 10 rfl (by decide +kernel) ?_ | refine WC.draw 11 rfl (by decide +kernel) ?_ | refine WC.draw 12 rfl (by decide +kernel) ?_ | refine WC.draw 13 rfl (by decide +kernel) ?_ | refine WC.draw 14 rfl (by decide +kernel) ?_ | refine WC.draw 15 rfl (by decide +kernel) ?_ | refine WC.draw 16 rfl (by decide +kernel) ?_ | refine WC.draw 17 rfl (by decide +kernel) ?_ | refine WC.draw 18 rfl (by decide +kernel) ?_ | refine WC.draw 19 rfl (by decide +kernel) ?_ | refine WC.draw 20 rfl (by decide +kernel) ?_ | refine WC.draw 21 rfl (by decide +kernel) ?_ | refine WC.draw 22 rfl (by decide +kernel) ?_ | refine WC.draw 23 rfl (by decide +kernel) ?_ | refine WC.draw 24 rfl (by decide +kernel) ?_)); (repeat (refine WD.cons rfl (fun c h => by cases h) sq_DR3_2 ?_)); refine WD.nil ?_)); (try (refine st ?_; (repeat intro zzc))))); (repeat ((first | (refine iF 79 rfl ?_; refine w_callG Try.func79 ?_ (hs := read_z _ (by (first | with_reducible exact natz _ | with_reducible exact natz0 | with_reducible exact natz1 | with_reducible exact natz2 | with_reducible exact natz3 | with_reducible exact natz4 | with_reducible exact natz8 | (apply natz_add; (· first | with_reducible exact natz _ | with_reducible exact natz0 | with_reducible exact natz1 | with_reducible exact natz2 | with_reducible exact natz3 | with_reducible exact natz4 | with_reducible exact natz8); (· first | with_reducible exact natz _ | with_reducible exact natz0 | with_reducible exact natz1 | with_reducible exact natz2 | with_reducible exact natz3 | with_reducible exact natz4 | with_reducible exact natz8)) | (apply natz_sub; (· first | with_reducible exact natz _ | with_reducible exact natz0 | with_reducible exact natz1 | with_reducible exact natz2 | with_reducible exact natz3 | with_reducible exact natz4 | with_reducible exact natz8); (· first | with_reducible exact natz _ | with_reducible exact natz0 | with_reducible exact natz1 | with_reducible exact natz2 | with_reducible exact natz3 | with_reducible exact natz4 | with_reducible exact natz8); (· omega)) | exact (Int.toNat_of_nonneg (by omega)).symm)) (by omega) (by omega) _ _ _)) | (refine iF 88 rfl ?_; refine w_callG Try.func88 ?_ (hs := form_any _ _ (by omega) (by omega) _ _ _)) | (refine iF 81 rfl ?_; refine w_callG Try.func81 ?_ (hs := refAt_any _ _ (by omega) (by omega) _ _ _)) | ((refine iDraw ?_; (first | refine WC.drawAll rfl (by decide +kernel) ?_ | refine WC.draw 1 rfl (by decide +kernel) ?_ | refine WC.draw 2 rfl (by decide +kernel) ?_ | refine WC.draw 3 rfl (by decide +kernel) ?_ | refine WC.draw 4 rfl (by decide +kernel) ?_ | refine WC.draw 5 rfl (by decide +kernel) ?_ | refine WC.draw 6 rfl (by decide +kernel) ?_ | refine WC.draw 7 rfl (by decide +kernel) ?_ | refine WC.draw 8 rfl (by decide +kernel) ?_ | refine WC.draw 9 rfl (by decide +kernel) ?_ | refine WC.draw 10 rfl (by decide +kernel) ?_ | refine WC.draw 11 rfl (by decide +kernel) ?_ | refine WC.draw 12 rfl (by decide +kernel) ?_ | refine WC.draw 13 rfl (by decide +kernel) ?_ | refine WC.draw 14 rfl (by decide +kernel) ?_ | refine WC.draw 15 rfl (by decide +kernel) ?_ | refine WC.draw 16 rfl (by decide +kernel) ?_ | refine WC.draw 17 rfl (by decide +kernel) ?_ | refine WC.draw 18 rfl (by decide +kernel) ?_ | refine WC.draw 19 rfl (by decide +kernel) ?_ | refine WC.draw 20 rfl (by decide +kernel) ?_ | refine WC.draw 21 rfl (by decide +kernel) ?_ | refine WC.draw 22 rfl (by decide +kernel) ?_ | refine WC.draw 23 rfl (by decide +kernel) ?_ | refine WC.draw 24 rfl (by decide +kernel) ?_)); (repeat (refine WD.cons rfl (fun c h => by cases h) sq_DR3_2 ?_)); refine WD.nil ?_)); (try (refine st ?_; (repeat intro zzc))))); (repeat revert zzc); exact zzn.out) : G := h ⟨next⟩
theorem from_length (l : List UInt8) : ∀ d k, l.length - k ≤ d → (from_ l k).length ≤ l.length - k
  | 0, k, h => by rw [from_nil (by omega)]; simp
  | d + 1, k, h => by
    by_cases hk : k < l.length
    · have hw := readP_w hk
      rw [from_cons hk, List.length_cons]
      have := from_length l d (k + (readP l k).w) (by omega)
      omega
    · rw [from_nil hk]; simp
theorem pieces_length (l : List UInt8) : (pieces l).length ≤ l.length := from_length l l.length 0 (by omega)
theorem refPieces_any (l : List UInt8) (hl : l.length ≤ 5000000000000) (w0 : World) (m : Mem) (H : SHeap) :
    Does Try.prog 75 #[str l] w0 m H (MakesRow 153 4 ((pieces l).map Pc.cs) m H) := by
  refine Does.of_body (args := [str l]) Try.func75 rfl Try.ntmps75 rfl ?_
  have hpl := pieces_length l
  (try (refine st_DR3_2 ?_; intros))
  refine WC.newRow (T := 153) (sz := 4) ?_
  refine WC.loopW [(4, .int .i64 0), (0, str l), (3, .slice none 0 0)] ?_ (fun j r ds m' H' => ∃ k a cap pre, j = l.length - k ∧ r = [(4, .int .i64 (k : Int)), (0, str l), (3, .slice a pre.length cap)] ∧ ds = [] ∧ m' = m ∧ H' = .row a cap 153 4 (pre.map Pc.cs) :: H ∧ pieces l = pre ++ from_ l k ∧ k ≤ l.length) l.length
    ⟨0, none, 0, [], rfl, rfl, rfl, rfl, rfl, rfl, by omega⟩ ?_
  · (repeat (first | exact Env.Sub.nil | refine Env.Sub.cons rfl ?_))
  rintro j r ds m' H' ⟨k, a, cap, pre, rfl, rfl, rfl, rfl, rfl, hp, hk⟩
  have hpre : pre.length ≤ l.length := by have := congrArg List.length hp; simp at this; omega
  (try (refine st_DR3_2 ?_; intros))
  (first | refine c_ways (fun h1 => ?_) (fun h1 => ?_) | refine c_nways (fun h1 => ?_) (fun h1 => ?_) | refine w_gways (fun h1 => ?_) (fun h1 => ?_) | refine w_gnways (fun h1 => ?_) (fun h1 => ?_))
  · have hw := readP_w (l := l) (k := k) (by omega)
    (refine st_DR3_2 ?_; intros; rename_i ak ck)
    refine WQ.next (l.length - (k + (readP l k).w)) ⟨k + (readP l k).w, ak, ck, pre ++ [readP l k], rfl, rfl, rfl, rfl, rfl, by rw [hp, from_cons (by omega)]; simp, by omega⟩ (by omega) ?_ ?_
    · rw [show (pre ++ [readP l k]).length = (List.map Pc.cs pre).length + 1 by simp]
      (repeat (first | exact Env.Sub.nil | refine Env.Sub.cons rfl ?_))
    · rw [List.map_append]
      exact (fun w h => h.sublist (by repeat (first | exact List.Sublist.refl _ | apply List.Sublist.cons_cons | apply List.Sublist.cons)))
  · have hpe : pieces l = pre := by rw [hp, from_nil (by omega), List.append_nil]
    (try (refine st_DR3_2 ?_; intros))
    (refine q_fin ?_)
    rw [hpe]
    exact ⟨a, cap, by rw [List.length_map], rfl, rfl⟩
end Go.Proofs.Ytieangfnjflfmaa

/-
  The walks of the reference's kinds of runes (canticleref03). No condition.
-/
namespace Go.Proofs.Ytieangfnjflfmaa
open Go Go.Eng
set_option maxRecDepth 100000
set_option maxHeartbeats 4000000
set_option linter.all false
attribute [local irreducible] WL WC WQ QFun QLoop Does Q1 QRound QAssign Go.Addr.add
attribute [local irreducible] Great Small Wide kindN
theorem in_any (a b c : Int) (w0 : World) (m : Mem) (H : SHeap) : Does Try.prog 82 #[.int .i32 a, .int .i32 b, .int .i32 c] w0 m H (Gives (.bool (dcd (b ≤ a ∧ a ≤ c))) m H) := by
  refine Does.of_body (args := [.int .i32 a, .int .i32 b, .int .i32 c]) Try.func82 rfl Try.ntmps82 rfl ?_
  (repeat' (first | (refine st ?_; intros) | (first | refine c_ways (fun h1 => ?_) (fun h1 => ?_) | refine c_nways (fun h1 => ?_) (fun h1 => ?_) | refine w_gways (fun h1 => ?_) (fun h1 => ?_) | refine w_gnways (fun h1 => ?_) (fun h1 => ?_))))
  all_goals ((refine q_fin0 ?_); refine Gives.mk (congrArg _ ?_))
  all_goals first | (refine tru_iff ?_; omega) | (refine fls_iff ?_; omega) | (refine dcd_cong ?_; omega)
theorem sq_C3_1 {G : Prop} (h : G := by (repeat (first | (refine sp ?_; (repeat intro zzc)) | (refine iF 82 rfl ?_; refine w_callG Try.func82 ?_ (hs := in_any _ _ _ _ _ _)))); exact WQ.q1 rfl) : G := h
theorem st_C3_1 {G G' : Prop} (next : G') (h : Bx G' → G := by intro zzn; (first | ((refine st ?_; (repeat intro zzc)); (try ((first | (refine iF 82 rfl ?_; refine w_callG Try.func82 ?_ (hs := in_any _ _ _ _ _ _)) | ((refine iDraw ?_; (first | refine WC.drawAll rfl (by decide +kernel) ?_ | refine WC.draw 1 rfl (by decide +kernel) ?_ | refine WC.draw 2 rfl (by decide +kernel) ?_ | refine WC.draw 3 rfl (by decide +kernel) ?_ | refine WC.draw 4 rfl (by decide +kernel) ?_ | refine WC.draw 5 rfl (by decide +kernel) ?_ | refine WC.draw 6 rfl (by decide +kernel) ?_ | refine WC.draw 7 rfl (by decide +kernel) ?_ | refine WC.draw 8 rfl (by decide +kernel) ?_ | refine WC.draw 9 rfl (by decide +kernel) ?_ | refine WC.draw 10 rfl (by decide +kernel) ?_ | refine WC.draw 11 rfl (by decide +kernel) ?_ | refine WC.draw 12 rfl (by decide +kernel) ?_ | refine WC.draw 13 rfl (by decide +kernel) ?_ | refine WC.draw 14 rfl (by decide +kernel) ?_ | refine WC.draw 15 rfl (by decide +kernel) ?_ | refine WC.draw 16 rfl (by decide +kernel) ?_ | refine WC.draw 17 rfl (by decide +kernel) ?_ | refine WC.draw 18 rfl (by decide +kernel) ?_ | refine WC.draw 19 rfl (by decide +kernel) ?_ | refine WC.draw 20 rfl (by decide +kernel) ?_ | refine WC.draw 21 rfl (by decide +kernel) ?_ | refine WC.draw 22 rfl (by decide +kernel) ?_ | refine WC.draw 23 rfl (by decide +kernel) ?_ | refine WC.draw 24 rfl (by decide +kernel) ?_)); (repeat (refine WD.cons rfl (fun c h => by cases h) sq_C3_1 ?_)); refine WD.nil ?_)); (try (refine st ?_; (repeat intro zzc)))))) | ((first | (refine iF 82 rfl ?_; refine w_callG Try.func82 ?_ (hs := in_any _ _ _ _ _ _)) | ((refine iDraw ?_; (first | refine WC.drawAll rfl (by decide +kernel) ?_ | refine WC.draw 1 rfl (by decide +kernel) ?_ | refine WC.draw 2 rfl (by decide +kernel) ?_ | refine WC.draw 3 rfl (by decide +kernel) ?_ | refine WC.draw 4 rfl (by decide +kernel) ?_ | refine WC.draw 5 rfl (by decide +kernel) ?_ | refine WC.draw 6 rfl (by decide +kernel) ?_ | refine WC.draw 7 rfl (by decide +kernel) ?_ | refine WC.draw 8 rfl (by decide +kernel) ?_ | refine WC.draw 9 rfl (by decide +kernel) ?_ | refine WC.draw 10 rfl (by decide +kernel) ?_ | refine WC.draw 11 rfl (by decide +kernel) ?_ | refine WC.draw 12 rfl (by decide +kernel) ?_ | refine WC.draw 13 rfl (by decide +kernel) ?_ | refine WC.draw 14 rfl (by decide +kernel) ?_ | refine WC.draw 15 rfl (by decide +kernel) ?_ | refine WC.draw 16 rfl (by decide +kernel) ?_ | refine WC.draw 17 rfl (by decide +kernel) ?_ | refine WC.draw 18 rfl (by decide +kernel) ?_ | refine WC.draw 19 rfl (by decide +kernel) ?_ | refine WC.draw 20 rfl (by decide +kernel) ?_ | refine WC.draw 21 rfl (by decide +kernel) ?_ | refine WC.draw 22 rfl (by decide +kernel) ?_ | refine WC.draw 23 rfl (by decide +kernel) ?_ | refine WC.draw 24 rfl (by decide +kernel) ?_)); (repeat (refine WD.cons rfl (fun c h => by cases h) sq_C3_1 ?_)); refine WD.nil ?_)); (try (refine st ?_; (repeat intro zzc))))); (repeat ((first | (refine iF 82 rfl ?_; refine w_callG Try.func82 ?_ (hs := in_any _ _ _ _ _ _)) | ((refine iDraw ?_; (first | refine WC.drawAll rfl (by decide +kernel) ?_ | refine WC.draw 1 rfl (by decide +kernel) ?_ | refine WC.draw 2 rfl (by decide +kernel) ?_ | refine WC.draw 3 rfl (by decide +kernel) ?_ | refine WC.draw 4 rfl (by decide +kernel) ?_ | refine WC.draw 5 rfl (by decide +kernel) ?_ | refine WC.draw 6 rfl (by decide +kernel) ?_ | refine WC.draw 7 rfl (by decide +kernel) ?_ | refine WC.draw 8 rfl (by decide +kernel) ?_ | refine WC.draw 9 rfl (by decide +kernel) ?_ | refine WC.draw 10 rfl (by decide +kernel) ?_ | refine WC.draw 11 rfl (by decide +kernel) ?_ | refine WC.draw 12 rfl (by decide +kernel) ?_ | refine WC.draw 13 rfl (by decide +kernel) ?_ | refine WC.draw 14 rfl (by decide +kernel) ?_ | refine WC.draw 15 rfl (by decide +kernel) ?_ | refine WC.draw 16 rfl (by decide +kernel) ?_ | refine WC.draw 17 rfl (by decide +kernel) ?_ | refine WC.draw 18 rfl (by decide +kernel) ?_ | refine WC.draw 19 rfl (by decide +kernel) ?_ | refine WC.draw 20 rfl (by decide +kernel) ?_ | refine WC.draw 21 rfl (by decide +kernel) ?_ | refine WC.draw 22 rfl (by decide +kernel) ?_ | refine WC.draw 23 rfl (by decide +kernel) ?_ | refine WC.draw 24 rfl (by decide +kernel) ?_)); (repeat (refine WD.cons rfl (fun c h => by cases h) sq_C3_1 ?_)); refine WD.nil ?_)); (try (refine st ?_; (repeat intro zzc))))); (repeat revert zzc); exact zzn.out) : G := h ⟨next⟩
theorem refGreat_any (r : Nat) (hr : r ≤ 1114111) (w0 : World) (m : Mem) (H : SHeap) : Does Try.prog 83 #[.int .i32 (r : Int)] w0 m H (Gives (.bool (dcd (Great r))) m H) := by
  refine Does.of_body (args := [.int .i32 (r : Int)]) Try.func83 rfl Try.ntmps83 rfl ?_
  (repeat' (first | (refine st_C3_1 ?_; intros) | (first | refine c_ways (fun h1 => ?_) (fun h1 => ?_) | refine c_nways (fun h1 => ?_) (fun h1 => ?_) | refine w_gways (fun h1 => ?_) (fun h1 => ?_) | refine w_gnways (fun h1 => ?_) (fun h1 => ?_))))
  all_goals ((refine q_fin0 ?_); refine Gives.mk (congrArg _ ?_))
  all_goals first | (refine tru_iff ?_; unfold Great; omega) | (refine fls_iff ?_; unfold Great; omega) | (refine dcd_cong ?_; unfold Great; omega) | (rw [dcd_not]; refine dcd_cong ?_; unfold Great; omega)
theorem refSmall_any (r : Nat) (hr : r ≤ 1114111) (w0 : World) (m : Mem) (H : SHeap) : Does Try.prog 84 #[.int .i32 (r : Int)] w0 m H (Gives (.bool (dcd (Small r))) m H) := by
  refine Does.of_body (args := [.int .i32 (r : Int)]) Try.func84 rfl Try.ntmps84 rfl ?_
  (repeat' (first | (refine st_C3_1 ?_; intros) | (first | refine c_ways (fun h1 => ?_) (fun h1 => ?_) | refine c_nways (fun h1 => ?_) (fun h1 => ?_) | refine w_gways (fun h1 => ?_) (fun h1 => ?_) | refine w_gnways (fun h1 => ?_) (fun h1 => ?_))))
  all_goals ((refine q_fin0 ?_); refine Gives.mk (congrArg _ ?_))
  all_goals first | (refine tru_iff ?_; unfold Small; omega) | (refine fls_iff ?_; unfold Small; omega) | (refine dcd_cong ?_; unfold Small; omega) | (rw [dcd_not]; refine dcd_cong ?_; unfold Small; omega)
theorem sq_C3_2 {G : Prop} (h : G := by (repeat (first | (refine sp ?_; (repeat intro zzc)) | (refine iF 82 rfl ?_; refine w_callG Try.func82 ?_ (hs := in_any _ _ _ _ _ _)) | (refine iF 83 rfl ?_; refine w_callG Try.func83 ?_ (hs := refGreat_any _ (by omega) _ _ _)) | (refine iF 84 rfl ?_; refine w_callG Try.func84 ?_ (hs := refSmall_any _ (by omega) _ _ _)))); exact WQ.q1 rfl) : G := h
theorem st_C3_2 {G G' : Prop} (next : G') (h : Bx G' → G := by intro zzn; (first | ((refine st ?_; (repeat intro zzc)); (try ((first | (refine iF 82 rfl ?_; refine w_callG Try.func82 ?_ (hs := in_any _ _ _ _ _ _)) | (refine iF 83 rfl ?_; refine w_callG Try.func83 ?_ (hs := refGreat_any _ (by omega) _ _ _)) | (refine iF 84 rfl ?_; refine w_callG Try.func84 ?_ (hs := refSmall_any _ (by omega) _ _ _)) | ((refine iDraw ?_; (first | refine WC.drawAll rfl (by decide +kernel) ?_ | refine WC.draw 1 rfl (by decide +kernel) ?_ | refine WC.draw 2 rfl (by decide +kernel) ?_ | refine WC.draw 3 rfl (by decide +kernel) ?_ | refine WC.draw 4 rfl (by decide +kernel) ?_ | refine WC.draw 5 rfl (by decide +kernel) ?_ | refine WC.draw 6 rfl (by decide +kernel) ?_ | refine WC.draw 7 rfl (by decide +kernel) ?_ | refine WC.draw 8 rfl (by decide +kernel) ?_ | refine WC.draw 9 rfl (by decide +kernel) ?_ | refine WC.draw 10 rfl (by decide +kernel) ?_ | refine WC.draw 11 rfl (by decide +kernel) ?_ | refine WC.draw 12 rfl (by decide +kernel) ?_ | refine WC.draw 13 rfl (by decide +kernel) ?_ | refine WC.draw 14 rfl (by decide +kernel) ?_ | refine WC.draw 15 rfl (by decide +kernel) ?_ | refine WC.draw 16 rfl (by decide +kernel) ?_ | refine WC.draw 17 rfl (by decide +kernel) ?_ | refine WC.draw 18 rfl (by decide +kernel) ?_ | refine WC.draw 19 rfl (by decide +kernel) ?_ | refine WC.draw 20 rfl (by decide +kernel) ?_ | refine WC.draw 21 rfl (by decide +kernel) ?_ | refine WC.draw 22 rfl (by decide +kernel) ?_ | refine WC.draw 23 rfl (by decide +kernel) ?_ | refine WC.draw 24 rfl (by decide +kernel) ?_)); (repeat (refine WD.cons rfl (fun c h => by cases h) sq_C3_2 ?_)); refine WD.nil ?_)); (try (refine st ?_; (repeat intro zzc)))))) | ((first | (refine iF 82 rfl ?_; refine w_callG Try.func82 ?_ (hs := in_any _ _ _ _ _ _)) | (refine iF 83 rfl ?_; refine w_callG Try.func83 ?_ (hs := refGreat_any _ (by omega) _ _ _)) | (refine iF 84 rfl ?_; refine w_callG Try.func84 ?_ (hs := refSmall_any _ (by omega) _ _ _)) | ((refine iDraw ?_; (first | refine WC.drawAll rfl (by decide +kernel) ?_ | refine WC.draw 1 rfl (by decide +kernel) ?_ | refine WC.draw 2 rfl (by decide +kernel) ?_ | refine WC.draw 3 rfl (by decide +kernel) ?_ | refine WC.draw 4 rfl (by decide +kernel) ?_ | refine WC.draw 5 rfl (by decide +kernel) ?_ | refine WC.draw 6 rfl (by decide +kernel) ?_ | refine WC.draw 7 rfl (by decide +kernel) ?_ | refine WC.draw 8 rfl (by decide +kernel) ?_ | refine WC.draw 9 rfl (by decide +kernel) ?_ | refine WC.draw 10 rfl (by decide +kernel) ?_ | refine WC.draw 11 rfl (by decide +kernel) ?_ | refine WC.draw 12 rfl (by decide +kernel) ?_ | refine WC.draw 13 rfl (by decide +kernel) ?_ | refine WC.draw 14 rfl (by decide +kernel) ?_ | refine WC.draw 15 rfl (by decide +kernel) ?_ | refine WC.draw 16 rfl (by decide +kernel) ?_ | refine WC.draw 17 rfl (by decide +kernel) ?_ | refine WC.draw 18 rfl (by decide +kernel) ?_ | refine WC.draw 19 rfl (by decide +kernel) ?_ | refine WC.draw 20 rfl (by decide +kernel) ?_ | refine WC.draw 21 rfl (by decide +kernel) ?_ | refine WC.draw 22 rfl (by decide +kernel) ?_ | refine WC.draw 23 rfl (by decide +kernel) ?_ | refine WC.draw 24 rfl (by decide +kernel) ?_)); (repeat (refine WD.cons rfl (fun c h => by cases h) sq_C3_2 ?_)); refine WD.nil ?_)); (try (refine st ?_; (repeat intro zzc))))); (repeat ((first | (refine iF 82 rfl ?_; refine w_callG Try.func82 ?_ (hs := in_any _ _ _ _ _ _)) | (refine iF 83 rfl ?_; refine w_callG Try.func83 ?_ (hs := refGreat_any _ (by omega) _ _ _)) | (refine iF 84 rfl ?_; refine w_callG Try.func84 ?_ (hs := refSmall_any _ (by omega) _ _ _)) | ((refine iDraw ?_; (first | refine WC.drawAll rfl (by decide +kernel) ?_ | refine WC.draw 1 rfl (by decide +kernel) ?_ | refine WC.draw 2 rfl (by decide +kernel) ?_ | refine WC.draw 3 rfl (by decide +kernel) ?_ | refine WC.draw 4 rfl (by decide +kernel) ?_ | refine WC.draw 5 rfl (by decide +kernel) ?_ | refine WC.draw 6 rfl (by decide +kernel) ?_ | refine WC.draw 7 rfl (by decide +kernel) ?_ | refine WC.draw 8 rfl (by decide +kernel) ?_ | refine WC.draw 9 rfl (by decide +kernel) ?_ | refine WC.draw 10 rfl (by decide +kernel) ?_ | refine WC.draw 11 rfl (by decide +kernel) ?_ | refine WC.draw 12 rfl (by decide +kernel) ?_ | refine WC.draw 13 rfl (by decide +kernel) ?_ | refine WC.draw 14 rfl (by decide +kernel) ?_ | refine WC.draw 15 rfl (by decide +kernel) ?_ | refine WC.draw 16 rfl (by decide +kernel) ?_ | refine WC.draw 17 rfl (by decide +kernel) ?_ | refine WC.draw 18 rfl (by decide +kernel) ?_ | refine WC.draw 19 rfl (by decide +kernel) ?_ | refine WC.draw 20 rfl (by decide +kernel) ?_ | refine WC.draw 21 rfl (by decide +kernel) ?_ | refine WC.draw 22 rfl (by decide +kernel) ?_ | refine WC.draw 23 rfl (by decide +kernel) ?_ | refine WC.draw 24 rfl (by decide +kernel) ?_)); (repeat (refine WD.cons rfl (fun c h => by cases h) sq_C3_2 ?_)); refine WD.nil ?_)); (try (refine st ?_; (repeat intro zzc))))); (repeat revert zzc); exact zzn.out) : G := h ⟨next⟩
theorem refKind_any (r : Nat) (hr : r ≤ 1114111) (ho : r < 55296 ∨ 57343 < r) (w0 : World) (m : Mem) (H : SHeap) : Does Try.prog 76 #[.int .i32 (r : Int)] w0 m H (Gives (.int .i64 (kindN r : Int)) m H) := by
  refine Does.of_body (args := [.int .i32 (r : Int)]) Try.func76 rfl Try.ntmps76 rfl ?_
  (repeat' (first | (refine st_C3_2 ?_; intros) | (first | refine c_ways (fun h1 => ?_) (fun h1 => ?_) | refine c_nways (fun h1 => ?_) (fun h1 => ?_) | refine w_gways (fun h1 => ?_) (fun h1 => ?_) | refine w_gnways (fun h1 => ?_) (fun h1 => ?_))))
  all_goals ((refine q_fin0 ?_); refine Gives.mk (congrArg _ ?_))
  all_goals first | (have hk := kind_letter (r := r) (.inl (by assumption)); omega) | (have hk := kind_letter (r := r) (.inr (by assumption)); omega) | (have hk := kind_spec (r := r) (not_or.2 ⟨by assumption, by assumption⟩); unfold Blank Dash Quote Point Ctl at hk; omega)
end Go.Proofs.Ytieangfnjflfmaa

/-
  The walk of the reference's Units. No condition.
-/
namespace Go.Eng
open Go
def optU : Option Un → List Un
  | none => []
  | some u => [u]
end Go.Eng
namespace Go.Proofs.Ytieangfnjflfmaa
open Go Go.Eng
set_option maxRecDepth 100000
set_option maxHeartbeats 4000000
set_option linter.all false
attribute [local irreducible] WL WC WQ QFun QLoop Does Q1 QRound QAssign Go.Addr.add
attribute [local irreducible] Wide kindN kindP colP readP pieces dl from_ uGo usE
theorem sq_D22_1 {G : Prop} (h : G := by (repeat (first | (refine sp ?_; (repeat intro zzc)) | (refine iF 76 rfl ?_; refine w_callG Try.func76 ?_ (hs := refKind_any _ (by omega) (by omega) _ _ _)))); exact WQ.q1 rfl) : G := h
theorem st_D22_1 {G G' : Prop} (next : G') (h : Bx G' → G := by intro zzn; (first | ((refine st ?_; (repeat intro zzc)); (try ((first | (refine iF 76 rfl ?_; refine w_callG Try.func76 ?_ (hs := refKind_any _ (by omega) (by omega) _ _ _)) | ((refine iDraw ?_; (first | refine WC.drawAll rfl (by decide +kernel) ?_ | refine WC.draw 1 rfl (by decide +kernel) ?_ | refine WC.draw 2 rfl (by decide +kernel) ?_ | refine WC.draw 3 rfl (by decide +kernel) ?_ | refine WC.draw 4 rfl (by decide +kernel) ?_ | refine WC.draw 5 rfl (by decide +kernel) ?_ | refine WC.draw 6 rfl (by decide +kernel) ?_ | refine WC.draw 7 rfl (by decide +kernel) ?_ | refine WC.draw 8 rfl (by decide +kernel) ?_ | refine WC.draw 9 rfl (by decide +kernel) ?_ | refine WC.draw 10 rfl (by decide +kernel) ?_ | refine WC.draw 11 rfl (by decide +kernel) ?_ | refine WC.draw 12 rfl (by decide +kernel) ?_ | refine WC.draw 13 rfl (by decide +kernel) ?_ | refine WC.draw 14 rfl (by decide +kernel) ?_ | refine WC.draw 15 rfl (by decide +kernel) ?_ | refine WC.draw 16 rfl (by decide +kernel) ?_ | refine WC.draw 17 rfl (by decide +kernel) ?_ | refine WC.draw 18 rfl (by decide +kernel) ?_ | refine WC.draw 19 rfl (by decide +kernel) ?_ | refine WC.draw 20 rfl (by decide +kernel) ?_ | refine WC.draw 21 rfl (by decide +kernel) ?_ | refine WC.draw 22 rfl (by decide +kernel) ?_ | refine WC.draw 23 rfl (by decide +kernel) ?_ | refine WC.draw 24 rfl (by decide +kernel) ?_)); (repeat (refine WD.cons rfl (fun c h => by cases h) sq_D22_1 ?_)); refine WD.nil ?_)); (try (refine st ?_; (repeat intro zzc)))))) | ((first | (refine iF 76 rfl ?_; refine w_callG Try.func76 ?_ (hs := refKind_any _ (by omega) (by omega) _ _ _)) | ((refine iDraw ?_; (first | refine WC.drawAll rfl (by decide +kernel) ?_ | refine WC.draw 1 rfl (by decide +kernel) ?_ | refine WC.draw 2 rfl (by decide +kernel) ?_ | refine WC.draw 3 rfl (by decide +kernel) ?_ | refine WC.draw 4 rfl (by decide +kernel) ?_ | refine WC.draw 5 rfl (by decide +kernel) ?_ | refine WC.draw 6 rfl (by decide +kernel) ?_ | refine WC.draw 7 rfl (by decide +kernel) ?_ | refine WC.draw 8 rfl (by decide +kernel) ?_ | refine WC.draw 9 rfl (by decide +kernel) ?_ | refine WC.draw 10 rfl (by decide +kernel) ?_ | refine WC.draw 11 rfl (by decide +kernel) ?_ | refine WC.draw 12 rfl (by decide +kernel) ?_ | refine WC.draw 13 rfl (by decide +kernel) ?_ | refine WC.draw 14 rfl (by decide +kernel) ?_ | refine WC.draw 15 rfl (by decide +kernel) ?_ | refine WC.draw 16 rfl (by decide +kernel) ?_ | refine WC.draw 17 rfl (by decide +kernel) ?_ | refine WC.draw 18 rfl (by decide +kernel) ?_ | refine WC.draw 19 rfl (by decide +kernel) ?_ | refine WC.draw 20 rfl (by decide +kernel) ?_ | refine WC.draw 21 rfl (by decide +kernel) ?_ | refine WC.draw 22 rfl (by decide +kernel) ?_ | refine WC.draw 23 rfl (by decide +kernel) ?_ | refine WC.draw 24 rfl (by decide +kernel) ?_)); (repeat (refine WD.cons rfl (fun c h => by cases h) sq_D22_1 ?_)); refine WD.nil ?_)); (try (refine st ?_; (repeat intro zzc))))); (repeat ((first | (refine iF 76 rfl ?_; refine w_callG Try.func76 ?_ (hs := refKind_any _ (by omega) (by omega) _ _ _)) | ((refine iDraw ?_; (first | refine WC.drawAll rfl (by decide +kernel) ?_ | refine WC.draw 1 rfl (by decide +kernel) ?_ | refine WC.draw 2 rfl (by decide +kernel) ?_ | refine WC.draw 3 rfl (by decide +kernel) ?_ | refine WC.draw 4 rfl (by decide +kernel) ?_ | refine WC.draw 5 rfl (by decide +kernel) ?_ | refine WC.draw 6 rfl (by decide +kernel) ?_ | refine WC.draw 7 rfl (by decide +kernel) ?_ | refine WC.draw 8 rfl (by decide +kernel) ?_ | refine WC.draw 9 rfl (by decide +kernel) ?_ | refine WC.draw 10 rfl (by decide +kernel) ?_ | refine WC.draw 11 rfl (by decide +kernel) ?_ | refine WC.draw 12 rfl (by decide +kernel) ?_ | refine WC.draw 13 rfl (by decide +kernel) ?_ | refine WC.draw 14 rfl (by decide +kernel) ?_ | refine WC.draw 15 rfl (by decide +kernel) ?_ | refine WC.draw 16 rfl (by decide +kernel) ?_ | refine WC.draw 17 rfl (by decide +kernel) ?_ | refine WC.draw 18 rfl (by decide +kernel) ?_ | refine WC.draw 19 rfl (by decide +kernel) ?_ | refine WC.draw 20 rfl (by decide +kernel) ?_ | refine WC.draw 21 rfl (by decide +kernel) ?_ | refine WC.draw 22 rfl (by decide +kernel) ?_ | refine WC.draw 23 rfl (by decide +kernel) ?_ | refine WC.draw 24 rfl (by decide +kernel) ?_)); (repeat (refine WD.cons rfl (fun c h => by cases h) sq_D22_1 ?_)); refine WD.nil ?_)); (try (refine st ?_; (repeat intro zzc))))); (repeat revert zzc); exact zzn.out) : G := h ⟨next⟩
theorem refUnits_any (l : List UInt8) (hl : l.length ≤ 4194304) (w0 : World) (m : Mem) (H : SHeap) :
    Does Try.prog 64 #[str l] w0 m H (fun v m' H' => m.le m' ∧ ∃ a cp, v = .slice a (unitsL l).length cp ∧ H' = .row a cp 143 5 (usE (unitsL l)) :: H) := by
  refine Does.of_body (args := [str l]) Try.func64 rfl Try.ntmps64 rfl ?_
  have hpl := pieces_length l
  (try (refine st_D22_1 ?_; intros))
  refine w_callF Try.func75 ?_ (hs := refPieces_any l (by omega) _ _ _)
  rintro v m H0 ⟨pa, pc, rfl, rfl, rfl⟩
  have hpm : ((pieces l).map Pc.cs).length = (pieces l).length := List.length_map _
  rw [hpm]
  (try (refine st_D22_1 ?_; intros))
  refine WC.newRow (T := 143) (sz := 5) ?_
  rw [show ([] : List (List Value)) = usE ([] ++ optU none) from by unfold usE optU; rfl]
  refine WC.loopH [(11, .int .i64 ((0) : Int)), (10, .int .i64 ((pieces l).length : Int)), (9, .slice pa (pieces l).length pc), (3, .slice (none) (([]) ++ optU (none)).length (0))] ?_ ?_ (fun j r ds m' H' => ∃ (i : Nat) (D : List Un) (o : Option Un) (a : Option Addr) (cp : Nat), j = (pieces l).length - i ∧ r = [(11, .int .i64 (i : Int)), (10, .int .i64 ((pieces l).length : Int)), (9, .slice pa (pieces l).length pc), (3, .slice a (D ++ optU o).length cp)] ∧ ds = [] ∧ m = m' ∧ H' = .row a cp 143 5 (usE (D ++ optU o)) :: .row pa pc 153 4 ((pieces l).map Pc.cs) :: H ∧ (i ≤ (pieces l).length) ∧ (unitsL l = D ++ uGo o ((pieces l).drop i)) ∧ ((D ++ optU o).length ≤ i) ∧ (o = none → D = []) ∧ (∀ u, o = some u → u.z ≤ l.length + 4 * i)) ((pieces l).length - (0)) ⟨0, [], none, none, 0, rfl, rfl, rfl, rfl, rfl, Nat.zero_le _, rfl, Nat.zero_le _, fun _ => rfl, fun _ h => by cases h⟩ ?_
  · (repeat (first | exact Env.Sub.nil | refine Env.Sub.cons rfl ?_))
  · exact zpk
  rintro j r ds m' H' ⟨i, D, o, a, cp, rfl, rfl, rfl, rfl, rfl, hi, hD, hDl, hoD, hoz⟩
  by_cases hlt : i < (pieces l).length
  · obtain ⟨p, hp⟩ : ∃ p, (pieces l)[i]? = some p := ⟨_, List.getElem?_eq_getElem hlt⟩
    have hdr : (pieces l).drop i = p :: (pieces l).drop (i + 1) := by
      obtain ⟨h1, h2⟩ := List.getElem?_eq_some_iff.1 hp
      rw [List.drop_eq_getElem_cons h1, h2]
    have hpm2 : p ∈ pieces l := List.mem_of_getElem? hp
    have hmw := mem_w hpm2
    have hrm := reach_of_mem hpm2
    have hpr : okr p.r := by rw [hrm.2.2]; exact readP_ok hrm.2.1
    have hr1 := okr_le hpr
    have hr2 : p.r < 55296 ∨ 57343 < p.r := by unfold okr at hpr; omega
    have hgp : ((pieces l).map Pc.cs)[i]? = some [.int .i64 (p.at_ : Int), .int .i64 (p.w : Int), .int .i32 (p.r : Int), .bool p.b] := by rw [List.getElem?_map, hp]; rfl
    have hap : (p.at_ : Int) + (p.w : Int) = ((p.at_ + p.w : Nat) : Int) := by omega
    rw [hdr] at hD
    generalize hPE : (pieces l).map Pc.cs = PE at *
    generalize hNE : (pieces l).length = NE at *
    refine WC.rowSome (a := pa) (es := PE) zhs (by omega) ?_
    rintro p0 rfl
    cases o with
    | none =>
      have hD0 := hoD rfl
      subst hD0
      have hu1 : usE ([] ++ optU (some (headU p))) = usE ([] ++ optU none) ++ [[.int .i64 (kindP p : Int), .int .i64 (p.at_ : Int), .int .i64 ((p.at_ + p.w : Nat) : Int), .int .i32 (p.r : Int), .bool true]] := by unfold usE optU; rfl
      have hul : (usE ([] ++ optU none)).length = 0 := by unfold usE optU; rfl
      have hl0 : (([] : List Un) ++ optU none).length = 0 := rfl
      have hl1 : (([] : List Un) ++ optU (some (headU p))).length = 0 + 1 := rfl
      rw [uGo_none] at hD
      generalize usE ([] ++ optU none) = UE at *
      rw [hl0]
      cases hb : p.b with
      | true =>
        rw [hb] at hgp
        rw [kindP_b hb, show ((11 : Nat) : Int) = 11 from rfl] at hu1
        (refine st_D22_1 ?_; intros; rename_i bp b9 a2 cp2)
        rw [hul, hap, ← hu1, ← hl1]
        subst hPE hNE
        refine WQ.next ((pieces l).length - (i + 1)) ⟨i + 1, [], some (headU p), a2, cp2, rfl, rfl, rfl, rfl, rfl, ?_, ?_, ?_, ?_, ?_⟩ (by omega) zsb zpk
        · omega
        · exact hD
        · rw [hl1]; omega
        · intro h; cases h
        · intro u h; cases h; show p.at_ + p.w ≤ _; omega
      | false =>
        rw [hb] at hgp
        rw [kindP_r hb] at hu1
        by_cases hk : kindN p.r = 2
        all_goals
          (refine st_D22_1 ?_; intros; rename_i bp b9 a2 cp2)
          rw [hul, hap, ← hu1, ← hl1]
          subst hPE hNE
          refine WQ.next ((pieces l).length - (i + 1)) ⟨i + 1, [], some (headU p), a2, cp2, rfl, rfl, rfl, rfl, rfl, ?_, ?_, ?_, ?_, ?_⟩ (by omega) zsb zpk
          · omega
          · exact hD
          · rw [hl1]; omega
          · intro h; cases h
          · intro u h; cases h; show p.at_ + p.w ≤ _; omega
    | some u =>
      have hlen : (D ++ optU (some u)).length = D.length + 1 := by simp [optU]
      have hgl : (usE (D ++ optU (some u)))[D.length + 1 - 1]? = some [.int .i64 (u.k : Int), .int .i64 (u.a : Int), .int .i64 (u.z : Int), .int .i32 (u.r : Int), .bool u.o] := usE_get (by simp [optU])
      have hul : (usE (D ++ optU (some u))).length = D.length + 1 := by rw [usE_length, hlen]
      rw [hlen] at hDl ⊢
      by_cases hg : kindP p = 2 ∧ ¬ bareK u.k
      · obtain ⟨hk, hnb⟩ := hg
        rw [uGo_mark ⟨hk, hnb⟩] at hD
        have hb : p.b = false := by
          cases hb : p.b with
          | false => rfl
          | true => rw [kindP_b hb] at hk; cases hk
        rw [hb] at hgp
        rw [kindP_r hb] at hk
        obtain ⟨n1, n2, n3⟩ : u.k ≠ 11 ∧ u.k ≠ 4 ∧ u.k ≠ 9 := by unfold bareK at hnb; omega
        have hset : ((usE (D ++ optU (some u))).set (D.length + 1 - 1) [.int .i64 (u.k : Int), .int .i64 (u.a : Int), .int .i64 ((u.z : Int) + (p.w : Int)), .int .i32 (u.r : Int), .bool u.o]).set (D.length + 1 - 1) [.int .i64 (u.k : Int), .int .i64 (u.a : Int), .int .i64 ((u.z : Int) + (p.w : Int)), .int .i32 (u.r : Int), .bool false] = usE (D ++ optU (some (u.ext p))) := by
          unfold usE optU
          rw [List.set_set, Nat.add_sub_cancel, List.map_append, List.map_append, List.set_append_right _ _ (by rw [List.length_map]; exact Nat.le_refl _), List.length_map, Nat.sub_self]
          simp [Un.cs2, Un.ext]
        have hg2 : ((usE (D ++ optU (some u))).set (D.length + 1 - 1) [.int .i64 (u.k : Int), .int .i64 (u.a : Int), .int .i64 ((u.z : Int) + (p.w : Int)), .int .i32 (u.r : Int), .bool u.o])[D.length + 1 - 1]? = some [.int .i64 (u.k : Int), .int .i64 (u.a : Int), .int .i64 ((u.z : Int) + (p.w : Int)), .int .i32 (u.r : Int), .bool u.o] := List.getElem?_set_self (by rw [hul]; omega)
        have hl1 : (D ++ optU (some (u.ext p))).length = D.length + 1 := by simp [optU]
        generalize usE (D ++ optU (some u)) = UE at *
        refine WC.rowSome (a := a) (es := UE) zhs (by omega) ?_
        rintro q0 rfl
        have huz := hoz u rfl
        have huw : (u.z : Int) + (p.w : Int) = ((u.z + p.w : Nat) : Int) := by omega
        (refine st_D22_1 ?_; intros; rename_i bp)
        rw [hset, ← hl1]
        subst hPE hNE
        refine WQ.next ((pieces l).length - (i + 1)) ⟨i + 1, D, some (u.ext p), some q0, cp, rfl, rfl, rfl, rfl, rfl, ?_, ?_, ?_, ?_, ?_⟩ (by omega) zsb zpk
        · omega
        · exact hD
        · rw [hl1]; omega
        · intro h; cases h
        · intro u' h; cases h; show u.z + p.w ≤ _; omega
      · rw [uGo_free hg] at hD
        have hD2 : unitsL l = (D ++ [u]) ++ uGo (some (headU p)) ((pieces l).drop (i + 1)) := by rw [hD]; simp
        have hu1 : usE ((D ++ [u]) ++ optU (some (headU p))) = usE (D ++ optU (some u)) ++ [[.int .i64 (kindP p : Int), .int .i64 (p.at_ : Int), .int .i64 ((p.at_ + p.w : Nat) : Int), .int .i32 (p.r : Int), .bool true]] := by unfold usE optU; simp [Un.cs2, headU]
        have hl1 : ((D ++ [u]) ++ optU (some (headU p))).length = D.length + 1 + 1 := by simp [optU]
        generalize usE (D ++ optU (some u)) = UE at *
        refine WC.rowSome (a := a) (es := UE) zhs (by omega) ?_
        rintro q0 rfl
        have hcase : kindP p ≠ 2 ∨ (kindP p = 2 ∧ (u.k = 11 ∨ (u.k ≠ 11 ∧ u.k = 4) ∨ (u.k ≠ 11 ∧ u.k ≠ 4 ∧ u.k = 9))) := by
          unfold bareK at hg; omega
        cases hb : p.b with
        | true =>
          rw [hb] at hgp
          rw [kindP_b hb, show ((11 : Nat) : Int) = 11 from rfl] at hu1
          (refine st_D22_1 ?_; intros; rename_i bp b9 a2 cp2)
          rw [hul, hap, ← hu1, ← hl1]
          subst hPE hNE
          refine WQ.next ((pieces l).length - (i + 1)) ⟨i + 1, D ++ [u], some (headU p), a2, cp2, rfl, rfl, rfl, rfl, rfl, ?_, ?_, ?_, ?_, ?_⟩ (by omega) zsb zpk
          · omega
          · exact hD2
          · rw [hl1]; omega
          · intro h; cases h
          · intro u h; cases h; show p.at_ + p.w ≤ _; omega
        | false =>
          rw [hb] at hgp
          rw [kindP_r hb] at hu1 hcase
          rcases hcase with hk | ⟨hk, hk2 | ⟨hk3, hk2⟩ | ⟨hk4, hk3, hk2⟩⟩
          all_goals
            (refine st_D22_1 ?_; intros; rename_i bp b9 a2 cp2)
            rw [hul, hap, ← hu1, ← hl1]
            subst hPE hNE
            refine WQ.next ((pieces l).length - (i + 1)) ⟨i + 1, D ++ [u], some (headU p), a2, cp2, rfl, rfl, rfl, rfl, rfl, ?_, ?_, ?_, ?_, ?_⟩ (by omega) zsb zpk
            · omega
            · exact hD2
            · rw [hl1]; omega
            · intro h; cases h
            · intro u h; cases h; show p.at_ + p.w ≤ _; omega
  · rw [List.drop_of_length_le (by omega)] at hD
    have hend : unitsL l = D ++ optU o := by
      rw [hD]
      cases o with
      | none => unfold uGo optU; rfl
      | some u => unfold uGo optU; rfl
    (try (refine st_D22_1 ?_; intros))
    exact q_fin0 (H0 := .row a cp 143 5 (usE (unitsL l)) :: H) ⟨Mem.le.refl _, a, cp, by rw [hend], rfl⟩ (hd := by rw [hend]; exact zpk)
end Go.Proofs.Ytieangfnjflfmaa

/-
  The reference's tokens are the program's: its runs, its ends. No condition.
-/
namespace Go.Eng
open Go
theorem runU_congr {k : Nat} {J K : Un → Bool} : ∀ us : List Un, (∀ u ∈ us, J u = K u) → runU k J us = runU k K us
  | [], _ => rfl
  | [v], _ => rfl
  | v :: w :: ws, h => by
    have h1 := runU_congr (k := k) (w :: ws) (fun u hu => h u (List.mem_cons_of_mem _ hu))
    have h2 := runU_congr (k := k) ws (fun u hu => h u (List.mem_cons_of_mem _ (List.mem_cons_of_mem _ hu)))
    unfold runU
    rw [h1, h2, h v List.mem_cons_self]
theorem oneB_joint {u : Un} (h : UOk u) : oneB [39, 8217, 45, 8208] u = jointB u := by
  unfold oneB
  cases hj : jointB u with
  | true =>
    have hk := joint_kind h hj
    obtain ⟨h1, h2⟩ := of_decide_eq_true hj
    simp only [List.contains_eq_mem, List.mem_cons, List.not_mem_nil, or_false, h2, Bool.true_and, Bool.and_eq_true, decide_eq_true_eq]
    exact ⟨by omega, h1⟩
  | false =>
    have hn : ¬ jointU u := of_decide_eq_false hj
    unfold jointU at hn
    cases ho : u.o with
    | false => rfl
    | true =>
      have : ¬ (u.r = 39 ∨ u.r = 8217 ∨ u.r = 45 ∨ u.r = 8208) := fun g => hn ⟨g, ho⟩
      simp [not_or.1 this |>.1, not_or.1 (not_or.1 this |>.2) |>.1, not_or.1 (not_or.1 (not_or.1 this |>.2) |>.2) |>.1, not_or.1 (not_or.1 (not_or.1 this |>.2) |>.2) |>.2]
theorem oneB_dot {u : Un} (h : UOk u) : oneB [44, 46] u = dotB u := by
  unfold oneB
  cases hj : dotB u with
  | true =>
    have hk := dot_kind h hj
    obtain ⟨h1, h2⟩ := of_decide_eq_true hj
    simp only [List.contains_eq_mem, List.mem_cons, List.not_mem_nil, or_false, h2, Bool.true_and, Bool.and_eq_true, decide_eq_true_eq]
    exact ⟨by omega, h1⟩
  | false =>
    have hn : ¬ dotU u := of_decide_eq_false hj
    unfold dotU at hn
    cases ho : u.o with
    | false => rfl
    | true =>
      have : ¬ (u.r = 44 ∨ u.r = 46) := fun g => hn ⟨g, ho⟩
      simp [not_or.1 this |>.1, not_or.1 this |>.2]
theorem oneB_none : oneB [] = fun _ => false := by funext u; unfold oneB; simp
theorem lastZ_get {u v : Un} {us : List Un} {n : Nat} (h : (u :: us)[n]? = some v) : lastZ u.z us n = v.z := by
  unfold lastZ
  cases n with
  | zero => cases h; rfl
  | succ n => rw [List.getElem?_cons_succ] at h; rw [if_neg (by omega), Nat.add_sub_cancel, h]; rfl
theorem rTok_fuel : ∀ (f g : Nat) (us : List Un), us.length ≤ f → us.length ≤ g → rTok f us = rTok g us
  | 0, 0, _, _, _ => rfl
  | 0, g + 1, us, h, _ => by obtain rfl := List.eq_nil_of_length_eq_zero (Nat.le_zero.1 h); rfl
  | f + 1, 0, us, _, h => by obtain rfl := List.eq_nil_of_length_eq_zero (Nat.le_zero.1 h); rfl
  | f + 1, g + 1, [], _, _ => rfl
  | f + 1, g + 1, u :: us, h, h2 => by
    rw [List.length_cons] at h h2
    rw [rTok, rTok, rTok_fuel f g _ (by rw [List.length_drop]; omega) (by rw [List.length_drop]; omega)]
/-- the tokens of units -/
def rToks (us : List Un) : List Tk := rTok us.length us
theorem rToks_nil : rToks [] = [] := rfl
theorem rToks_cons {u v : Un} {us : List Un} (h : (u :: us)[takeN u us]? = some v) : rToks (u :: us) = ⟨(beginK u).1, u.a, v.z⟩ :: rToks (us.drop (takeN u us)) := by
  unfold rToks
  rw [List.length_cons, rTok, lastZ_get h, rTok_fuel us.length (us.drop (takeN u us)).length _ (by rw [List.length_drop]; omega) (Nat.le_refl _)]
theorem tokens_rToks (l : List UInt8) : tokens l = rToks (unitsL l) := tokens_run l
theorem takeN_word {u : Un} {us : List Un} (ho : ∀ v ∈ us, UOk v) (h : u.k = 1) : takeN u us = runU 1 (oneB [39, 8217, 45, 8208]) us := by
  unfold takeN
  rw [if_pos h]
  exact runU_congr us (fun v hv => (oneB_joint (ho v hv)).symm)
theorem takeN_number {u : Un} {us : List Un} (ho : ∀ v ∈ us, UOk v) (h : u.k = 3) : takeN u us = runU 3 (oneB [44, 46]) us := by
  unfold takeN
  rw [if_neg (by omega), if_pos h]
  exact runU_congr us (fun v hv => (oneB_dot (ho v hv)).symm)
theorem takeN_blank {u : Un} {us : List Un} (h : u.k = 5) : takeN u us = runU 5 (oneB []) us := by
  unfold takeN
  rw [if_neg (by omega), if_neg (by omega), if_pos h, oneB_none]
theorem takeN_broken {u : Un} {us : List Un} (h : u.k = 11) : takeN u us = runU 11 (oneB []) us := by
  unfold takeN
  rw [if_neg (by omega), if_neg (by omega), if_neg (by omega), if_pos h, oneB_none]
theorem takeN_pause {u v : Un} {us : List Un} (h : u.k = 4) (hr : u.r = 13) (hv : us[0]? = some v) (h2 : v.k = 4) (h3 : v.r = 10) : takeN u us = 1 := by
  unfold takeN
  cases us with
  | nil => cases hv
  | cons w ws =>
    cases hv
    rw [if_neg (by omega), if_neg (by omega), if_neg (by omega), if_neg (by omega), if_pos ⟨h, hr⟩]
    exact if_pos ⟨h2, h3⟩
theorem takeN_alone {u : Un} {us : List Un} (h : u.k ≠ 1 ∧ u.k ≠ 3 ∧ u.k ≠ 5 ∧ u.k ≠ 11) (h2 : ¬ (u.k = 4 ∧ u.r = 13) ∨ ∀ v, us[0]? = some v → ¬ (v.k = 4 ∧ v.r = 10)) : takeN u us = 0 := by
  unfold takeN
  rw [if_neg h.1, if_neg h.2.1, if_neg h.2.2.1, if_neg h.2.2.2]
  split
  · next g =>
    rcases h2 with h2 | h2
    · exact absurd g h2
    · cases us with
      | nil => rfl
      | cons w ws => exact if_neg (h2 w rfl)
  · rfl
end Go.Eng

