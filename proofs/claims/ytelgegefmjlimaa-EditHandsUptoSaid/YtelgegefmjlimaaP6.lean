/-
  Parts of a walk, joined: E39 EVH LM7. No condition.
-/
import Derived.Test.YtelgegefmjlimaaP5
import Derived.Test.YtelgegefmjlimaaP2
import Derived.Test.YtelgegefmjlimaaRows
set_option linter.all false
/-
  The walk of the law EditHands. No condition.
-/
namespace Go.Eng
open Go Go.RowKit
/-- a change in the law's list, and where it lies -/
structure Chg where
  l : List Stp
  a : Option Addr
  cap : Nat
def Chg.cs (x : Chg) : List Value := [.slice x.a x.l.length x.cap]
def Chg.it (T : TypeId) (x : Chg) : Item := .row x.a x.cap T 3 (x.l.map Stp.cs)
def kkOf (N : Nat) (at_ : List Int) (g : Nat) : Nat := ((at_.getD g 0).tmod ((N + 1 : Nat) : Int)).natAbs
def vvOf (puts : List (List UInt8)) (g : Nat) : List UInt8 := puts.getD g []
def hpV (s : List UInt8) : List Value := [str s]
def hkV (k : Int) : List Value := [.int .i64 k]
theorem kk_le (N : Nat) (at_ : List Int) (g : Nat) : kkOf N at_ g ≤ N := by
  have := tmod_bounds (n := N + 1) (by omega) (at_.getD g 0)
  unfold kkOf; omega
theorem applyT_of {s t : List UInt8} {L : List Atm} (h1 : fromA L = s.length) (h2 : applyA s L = some t) (h3 : fromA L ≤ 65536) (h4 : toA L ≤ 65536) : applyT s (listOf L) = t ∧ applyE s (listOf L) = 0 := by
  unfold applyT applyE
  rw [sizes_list L h3 h4, apply_list, h2]
  simp only
  rw [if_neg (by omega), if_neg (by omega)]
  exact ⟨rfl, rfl⟩
theorem chR_len (kk : Nat → Nat) (vv : Nat → List UInt8) (text : List UInt8) : ∀ R : List Nat, (chR kk vv text R).length = R.length
  | [] => rfl
  | i :: R => by rw [chR, List.length_append, chR_len kk vv text R]; rfl
theorem chg_get {C : List Chg} {f : Nat → List Stp} {n g : Nat} (h : C.map (·.l) = (List.range n).map f) (hg : g < n) : ∃ x ∈ C, (C.map Chg.cs)[g]? = some [.slice x.a x.l.length x.cap] ∧ x.l = f g := by
  have hl : C.length = n := by have := congrArg List.length h; simpa using this
  refine ⟨C[g], List.getElem_mem _, by rw [List.getElem?_map, List.getElem?_eq_getElem (by omega)]; rfl, ?_⟩
  have := congrArg (·[g]?) h
  simp only [List.getElem?_map, List.getElem?_range hg, List.getElem?_eq_getElem (show g < C.length by omega), Option.map_some, Option.some.injEq] at this
  exact this
/-- what a sheet makes of a hand's change -/
theorem send_hand {kk : Nat → Nat} {vv : Nat → List UInt8} {text now : List UInt8} {L R : List Nat} {K : List Snt} {i : Nat} (hkt : ∀ g, kk g ≤ text.length) (hK : K.map Snt.hl = chR kk vv text R) (hp : L.Perm R) (hs : List.Pairwise (bef kk) L) (hi : i ∉ R)
    (hnow : now = ctS kk vv text L 0) (hlen : lenS vv text R + (vv i).length ≤ 65536) (hKl : K.length ≤ 1000) :
    ∃ d L', sendR text now K (i : Int) 0 (chg (kk i) (vv i) text.length) = .inr d ∧ Fit d ∧ ((i : Int), d) :: [] = [((i : Int), listOf (insA (posS kk vv R i) (vv i) (lenS vv text R)))] ∧ L'.Perm (i :: R) ∧ List.Pairwise (bef kk) L' ∧ applyT now d = ctS kk vv text L' 0 := by
  obtain ⟨L', h1, h2, h3, h4⟩ := hand_more (vv := vv) hkt hp hs hi
  have hN : text.length ≤ lenS vv text R := by unfold lenS; omega
  have hpl := pos_le (vv := vv) (hkt i) R
  obtain ⟨f1, f2⟩ := ins_from (vv i) hpl
  refine ⟨listOf (insA (posS kk vv R i) (vv i) (lenS vv text R)), L', ?_, fit_list (by omega) (by omega), rfl, h1, h2, ?_⟩
  · have hsz := chg_sizes (vv i) (hkt i) (show text.length + (vv i).length ≤ 65536 by omega)
    have hat := ins_apply text (vv i) (hkt i)
    have hE : applyE text (chg (kk i) (vv i) text.length) = 0 := by
      unfold applyE
      rw [hsz]
      simp only [ne_eq, not_true, if_false]
      rw [chg_atoms _ (hkt i), hat]; rfl
    have htx : (if (0 : Int) = K.length then now else textAt text (K.take (0 : Int).toNat)) = text := by
      split
      · rename_i h0
        have hR : R = [] := by
          have : (K.map Snt.hl).length = 0 := by rw [List.length_map]; omega
          rw [hK] at this
          cases R with
          | nil => rfl
          | cons a R => simp [chR] at this
        subst hR
        have hL : L = [] := hp.eq_nil
        rw [hnow, hL]; simp [ctS]
      · unfold textAt; rfl
    unfold sendR
    rw [htx, if_neg (by rw [hsz]; simp), if_neg (by omega), if_neg (by simp [hE]), if_neg (by omega)]
    rw [show (0 : Int).toNat = 0 from rfl, List.drop_zero, hK, chg_plain _ (hkt i)]
    exact carried_R (hkt i) R hi (fun g _ => hkt g) hlen
  · rw [← hnow] at h3 h4
    exact (applyT_of (by omega) h3 (by omega) (by omega)).1
end Go.Eng
namespace Go.Proofs.Ytelgegefmjlimaa
open Go Go.Eng
set_option maxRecDepth 100000
set_option maxHeartbeats 4000000
set_option linter.all false
attribute [local irreducible] WL WC WQ QFun QLoop Does Q1 QRound QAssign Go.Addr.add
theorem sq_E39_1 {G : Prop} (h : G := by (repeat (first | (refine sp ?_; (repeat intro zzc)) | (refine iF 12 rfl ?_; refine w_callG Try.func12 ?_ (hs := live_any _ _ _)))); exact WQ.q1 rfl) : G := h
theorem st_E39_1 {G G' : Prop} (next : G') (h : Bx G' → G := by intro zzn; (first | ((refine st ?_; (repeat intro zzc)); (try ((first | (refine iF 12 rfl ?_; refine w_callG Try.func12 ?_ (hs := live_any _ _ _)) | ((refine iDraw ?_; (first | refine WC.drawAll rfl (by decide +kernel) ?_ | refine WC.draw 1 rfl (by decide +kernel) ?_ | refine WC.draw 2 rfl (by decide +kernel) ?_ | refine WC.draw 3 rfl (by decide +kernel) ?_ | refine WC.draw 4 rfl (by decide +kernel) ?_ | refine WC.draw 5 rfl (by decide +kernel) ?_ | refine WC.draw 6 rfl (by decide +kernel) ?_ | refine WC.draw 7 rfl (by decide +kernel) ?_ | refine WC.draw 8 rfl (by decide +kernel) ?_ | refine WC.draw 9 rfl (by decide +kernel) ?_ | refine WC.draw 10 rfl (by decide +kernel) ?_ | refine WC.draw 11 rfl (by decide +kernel) ?_ | refine WC.draw 12 rfl (by decide +kernel) ?_ | refine WC.draw 13 rfl (by decide +kernel) ?_ | refine WC.draw 14 rfl (by decide +kernel) ?_ | refine WC.draw 15 rfl (by decide +kernel) ?_ | refine WC.draw 16 rfl (by decide +kernel) ?_ | refine WC.draw 17 rfl (by decide +kernel) ?_ | refine WC.draw 18 rfl (by decide +kernel) ?_ | refine WC.draw 19 rfl (by decide +kernel) ?_ | refine WC.draw 20 rfl (by decide +kernel) ?_ | refine WC.draw 21 rfl (by decide +kernel) ?_ | refine WC.draw 22 rfl (by decide +kernel) ?_ | refine WC.draw 23 rfl (by decide +kernel) ?_ | refine WC.draw 24 rfl (by decide +kernel) ?_)); (repeat (refine WD.cons rfl (fun c h => by cases h) sq_E39_1 ?_)); refine WD.nil ?_)); (try (refine st ?_; (repeat intro zzc)))))) | ((first | (refine iF 12 rfl ?_; refine w_callG Try.func12 ?_ (hs := live_any _ _ _)) | ((refine iDraw ?_; (first | refine WC.drawAll rfl (by decide +kernel) ?_ | refine WC.draw 1 rfl (by decide +kernel) ?_ | refine WC.draw 2 rfl (by decide +kernel) ?_ | refine WC.draw 3 rfl (by decide +kernel) ?_ | refine WC.draw 4 rfl (by decide +kernel) ?_ | refine WC.draw 5 rfl (by decide +kernel) ?_ | refine WC.draw 6 rfl (by decide +kernel) ?_ | refine WC.draw 7 rfl (by decide +kernel) ?_ | refine WC.draw 8 rfl (by decide +kernel) ?_ | refine WC.draw 9 rfl (by decide +kernel) ?_ | refine WC.draw 10 rfl (by decide +kernel) ?_ | refine WC.draw 11 rfl (by decide +kernel) ?_ | refine WC.draw 12 rfl (by decide +kernel) ?_ | refine WC.draw 13 rfl (by decide +kernel) ?_ | refine WC.draw 14 rfl (by decide +kernel) ?_ | refine WC.draw 15 rfl (by decide +kernel) ?_ | refine WC.draw 16 rfl (by decide +kernel) ?_ | refine WC.draw 17 rfl (by decide +kernel) ?_ | refine WC.draw 18 rfl (by decide +kernel) ?_ | refine WC.draw 19 rfl (by decide +kernel) ?_ | refine WC.draw 20 rfl (by decide +kernel) ?_ | refine WC.draw 21 rfl (by decide +kernel) ?_ | refine WC.draw 22 rfl (by decide +kernel) ?_ | refine WC.draw 23 rfl (by decide +kernel) ?_ | refine WC.draw 24 rfl (by decide +kernel) ?_)); (repeat (refine WD.cons rfl (fun c h => by cases h) sq_E39_1 ?_)); refine WD.nil ?_)); (try (refine st ?_; (repeat intro zzc))))); (repeat ((first | (refine iF 12 rfl ?_; refine w_callG Try.func12 ?_ (hs := live_any _ _ _)) | ((refine iDraw ?_; (first | refine WC.drawAll rfl (by decide +kernel) ?_ | refine WC.draw 1 rfl (by decide +kernel) ?_ | refine WC.draw 2 rfl (by decide +kernel) ?_ | refine WC.draw 3 rfl (by decide +kernel) ?_ | refine WC.draw 4 rfl (by decide +kernel) ?_ | refine WC.draw 5 rfl (by decide +kernel) ?_ | refine WC.draw 6 rfl (by decide +kernel) ?_ | refine WC.draw 7 rfl (by decide +kernel) ?_ | refine WC.draw 8 rfl (by decide +kernel) ?_ | refine WC.draw 9 rfl (by decide +kernel) ?_ | refine WC.draw 10 rfl (by decide +kernel) ?_ | refine WC.draw 11 rfl (by decide +kernel) ?_ | refine WC.draw 12 rfl (by decide +kernel) ?_ | refine WC.draw 13 rfl (by decide +kernel) ?_ | refine WC.draw 14 rfl (by decide +kernel) ?_ | refine WC.draw 15 rfl (by decide +kernel) ?_ | refine WC.draw 16 rfl (by decide +kernel) ?_ | refine WC.draw 17 rfl (by decide +kernel) ?_ | refine WC.draw 18 rfl (by decide +kernel) ?_ | refine WC.draw 19 rfl (by decide +kernel) ?_ | refine WC.draw 20 rfl (by decide +kernel) ?_ | refine WC.draw 21 rfl (by decide +kernel) ?_ | refine WC.draw 22 rfl (by decide +kernel) ?_ | refine WC.draw 23 rfl (by decide +kernel) ?_ | refine WC.draw 24 rfl (by decide +kernel) ?_)); (repeat (refine WD.cons rfl (fun c h => by cases h) sq_E39_1 ?_)); refine WD.nil ?_)); (try (refine st ?_; (repeat intro zzc))))); (repeat revert zzc); exact zzn.out) : G := h ⟨next⟩
attribute [local irreducible] sizesOf sizesF applyV applyT applyE listOf plainOf applyA textAt carP overP carriedP sendR chR ctS posS lenS chg kkOf vvOf fb fk
theorem editHands_any {s : List UInt8} {puts : List (List UInt8)} {at_ : List Int} {turn : Int} {pa pb : Option Addr} {ca cb : Nat} (hsl : s.length ≤ 1048576) (hpl : puts.length ≤ 1048576) (hal : at_.length ≤ 1048576) (hps : ∀ x ∈ puts, x.length ≤ 1048576)
    (hat : ∀ x ∈ at_, -9223372036854775808 ≤ x ∧ x ≤ 9223372036854775807) (htu : -9223372036854775808 ≤ turn ∧ turn ≤ 9223372036854775807) (w0 : World) (m : Mem) (H : SHeap) (hra : ∀ Hp, RowR w0 m Hp 1 pa (puts.map hpV)) (hrb : ∀ Hp, RowR w0 m Hp 1 pb (at_.map hkV)) :
    Does Try.prog 9 #[.agg #[str s, .slice pa puts.length ca, .slice pb at_.length cb, .int .i64 turn]] w0 m H (fun v m' _ => v = .bool true ∧ m.le m') := by
  refine Does.of_body (args := [.agg #[str s, .slice pa puts.length ca, .slice pb at_.length cb, .int .i64 turn]]) Try.func9 rfl Try.ntmps9 rfl ?_
  obtain ⟨n, hn⟩ : ∃ n : Nat, n = min puts.length at_.length := ⟨_, rfl⟩
  (refine st_E39_1 ?_; intros; rename_i h)
  refine WC.join (fun r' ds' m' H' => r' = [(7, .int .i64 (n : Int)), (6, .int .i64 turn), (5, .slice pb at_.length cb), (4, .slice pa puts.length ca), (3, str s)] ∧ ds' = [] ∧ m = m' ∧ H = H') ?_ ?_
  · by_cases hlt : at_.length < puts.length
    · obtain rfl : n = at_.length := by omega
      (try (refine st_E39_1 ?_; intros))
      exact WQ.join ⟨rfl, rfl, rfl, rfl⟩ zsb zpk
    · obtain rfl : n = puts.length := by omega
      (try (refine st_E39_1 ?_; intros))
      exact WQ.join ⟨rfl, rfl, rfl, rfl⟩ zsb zpk
  rintro _ _ _ _ ⟨rfl, rfl, rfl, rfl⟩
  by_cases hs5 : s.length ≤ 5000
  rotate_left
  · (try (refine st_E39_1 ?_; intros))
    (refine q_fin0 ?_)
    exact ⟨rfl, Mem.le.refl _⟩
  by_cases hn2 : n ≤ 20
  rotate_left
  · (try (refine st_E39_1 ?_; intros))
    (refine q_fin0 ?_)
    exact ⟨rfl, Mem.le.refl _⟩
  by_cases hn0 : n = 0
  · (try (refine st_E39_1 ?_; intros))
    (refine q_fin0 ?_)
    exact ⟨rfl, Mem.le.refl _⟩
  (try (refine st_E39_1 ?_; intros))
  refine WC.newRow (T := 22) (sz := 1) ?_
  refine WC.loopH [(10, .int .i64 ((0) : Int)), (9, .int .i64 ((s.length) : Int)), (8, .slice (none) (([] : List Chg)).length (0)), (7, .int .i64 (n : Int)), (6, .int .i64 turn), (5, .slice pb at_.length cb), (4, .slice pa puts.length ca), (3, str s)] ?_ ?_ (fun j r ds m' H' => ∃ (i : Nat) (C : List Chg) (Hx : SHeap) (cl : Option Addr) (cpl : Nat) (sum : Nat), j = n - i ∧ r = [(10, .int .i64 (i : Int)), (9, .int .i64 (sum : Int)), (8, .slice cl C.length cpl), (7, .int .i64 (n : Int)), (6, .int .i64 turn), (5, .slice pb at_.length cb), (4, .slice pa puts.length ca), (3, str s)] ∧ ds = [] ∧ m = m' ∧ H' = .row cl cpl 22 1 (C.map Chg.cs) :: Hx ∧ (i ≤ n) ∧ (∀ x ∈ C, x.it 59 ∈ Hx) ∧ (C.map (·.l) = (List.range i).map fun g => chg (kkOf s.length at_ g) (vvOf puts g) s.length) ∧ (sum = lenS (vvOf puts) s (sentA i)) ∧ (sum ≤ 5000)) (n - (0)) ⟨0, ([] : List Chg), H, none, 0, s.length, rfl, rfl, rfl, rfl, rfl, Nat.zero_le _, by simp, rfl, by unfold lenS sentA; simp, hs5⟩ ?_
  · (repeat (first | exact Env.Sub.nil | refine Env.Sub.cons rfl ?_))
  · exact zpk
  rintro j r ds m' H' ⟨i, C, Hx, cl, cpl, sum, rfl, rfl, rfl, rfl, rfl, hi, hCi, hCl, hsum, hs2⟩
  have hCn : C.length = i := by have := congrArg List.length hCl; simpa using this
  by_cases hlt : i < n
  · have hiu : i < puts.length := by omega
    have hia : i < at_.length := by omega
    have hgp : (puts.map hpV)[i]? = some [str puts[i]] := by rw [List.getElem?_map, List.getElem?_eq_getElem hiu]; rfl
    have hga : (at_.map hkV)[i]? = some [.int .i64 at_[i]] := by rw [List.getElem?_map, List.getElem?_eq_getElem hia]; rfl
    have hv : vvOf puts i = puts[i] := by unfold vvOf; rw [List.getD_eq_getElem?_getD, List.getElem?_eq_getElem hiu]; rfl
    have hkd : kkOf s.length at_ i = (at_[i].tmod ((s.length + 1 : Nat) : Int)).natAbs := by unfold kkOf; rw [List.getD_eq_getElem?_getD, List.getElem?_eq_getElem hia]; rfl
    have hkb := tmod_bounds (n := s.length + 1) (by omega) at_[i]
    have hput := hps _ (List.getElem_mem hiu)
    have hatb := hat _ (List.getElem_mem hia)
    have hr1 := hra (.row cl cpl 22 1 (C.map Chg.cs) :: Hx)
    have hr2 := hrb (.row cl cpl 22 1 (C.map Chg.cs) :: Hx)
    refine WC.rSome hr1 (by rw [List.length_map]; omega) ?_
    rintro d1 rfl
    refine WC.rSome hr2 (by rw [List.length_map]; omega) ?_
    rintro d2 rfl
    (try (refine st_E39_1 ?_; intros))
    refine WL.rem rfl rfl rfl (by omega) ?_
    have ec : ((s.length + 1 : Nat) : Int) = (s.length : Int) + 1 := by omega
    rw [ec] at hkd hkb
    rw [← hv] at hgp hput
    generalize hv0 : vvOf puts i = v at *
    generalize hz : at_[i].tmod ((s.length : Int) + 1) = z at *
    (try (refine st_E39_1 ?_; intros))
    refine WC.join (fun r' ds' m' H' => r' = [(11, .int .i64 (kkOf s.length at_ i : Int)), (10, .int .i64 (i : Int)), (9, .int .i64 (sum : Int)), (8, .slice cl C.length cpl), (7, .int .i64 (n : Int)), (6, .int .i64 turn), (5, .slice (some d2) at_.length cb), (4, .slice (some d1) puts.length ca), (3, str s)] ∧ ds' = [] ∧ m = m' ∧ H' = .row cl cpl 22 1 (C.map Chg.cs) :: Hx) ?_ ?_
    · by_cases h0 : z < 0
      · have ez : -z = (kkOf s.length at_ i : Int) := by omega
        (try (refine st_E39_1 ?_; intros))
        rw [ez]
        exact WQ.join ⟨rfl, rfl, rfl, rfl⟩ zsb zpk
      · have ez : z = (kkOf s.length at_ i : Int) := by omega
        (try (refine st_E39_1 ?_; intros))
        rw [ez]
        exact WQ.join ⟨rfl, rfl, rfl, rfl⟩ zsb zpk
    rintro _ _ _ _ ⟨rfl, rfl, rfl, rfl⟩
    have hkn : kkOf s.length at_ i ≤ s.length := kk_le _ _ _
    have hnew : chg (kkOf s.length at_ i) v s.length = ((if 0 < kkOf s.length at_ i then [⟨(kkOf s.length at_ i : Int), [], []⟩] else []) ++ (if v = [] then [] else [⟨0, [], v⟩])) ++ (if kkOf s.length at_ i < s.length then [⟨((s.length - kkOf s.length at_ i : Nat) : Int), [], []⟩] else []) := by unfold chg; rfl
    generalize hk : kkOf s.length at_ i = k at *
    (try (refine st_E39_1 ?_; intros))
    refine WC.newRow (T := 59) (sz := 3) ?_
    have hnl : ([] : List (List Value)).length = 0 := rfl
    refine WC.join (fun r' ds' m' H' => ∃ (q : Option Addr) (cq : Nat) (X : List Stp), X = (if 0 < k then [⟨(k : Int), [], []⟩] else []) ∧ r' = [(12, .slice q X.length cq), (11, .int .i64 (k : Int)), (10, .int .i64 (i : Int)), (9, .int .i64 (sum : Int)), (8, .slice cl C.length cpl), (7, .int .i64 (n : Int)), (6, .int .i64 turn), (5, .slice (some d2) at_.length cb), (4, .slice (some d1) puts.length ca), (3, str s)] ∧ ds' = [] ∧ m = m' ∧ H' = .row q cq 59 3 (X.map Stp.cs) :: .row cl cpl 22 1 (C.map Chg.cs) :: Hx) ?_ ?_
    · by_cases h0 : 0 < k
      · (refine st_E39_1 ?_; intros; rename_i x1 q cq)
        exact WQ.join ⟨q, cq, [⟨(k : Int), [], []⟩], by rw [if_pos h0], rfl, rfl, rfl, rfl⟩ zsb zpk
      · (try (refine st_E39_1 ?_; intros))
        exact WQ.join ⟨none, 0, [], by rw [if_neg h0], rfl, rfl, rfl, rfl⟩ zsb zpk
    rintro _ _ _ _ ⟨q, cq, X, hX, rfl, rfl, rfl, rfl⟩
    have hXl : X.length ≤ 1 := by rw [hX]; split <;> simp
    have hXm : (X.map Stp.cs).length = X.length := by simp
    have hr3 := hra (.row q cq 59 3 (X.map Stp.cs) :: .row cl cpl 22 1 (C.map Chg.cs) :: Hx)
    rw [← hX] at hnew
    (try (refine st_E39_1 ?_; intros))
    refine WC.join (fun r' ds' m' H' => ∃ (q : Option Addr) (cq : Nat) (Y : List Stp), Y = X ++ (if v = [] then [] else [⟨0, [], v⟩]) ∧ r' = [(12, .slice q Y.length cq), (11, .int .i64 (k : Int)), (10, .int .i64 (i : Int)), (9, .int .i64 (sum : Int)), (8, .slice cl C.length cpl), (7, .int .i64 (n : Int)), (6, .int .i64 turn), (5, .slice (some d2) at_.length cb), (4, .slice (some d1) puts.length ca), (3, str s)] ∧ ds' = [] ∧ m = m' ∧ H' = .row q cq 59 3 (Y.map Stp.cs) :: .row cl cpl 22 1 (C.map Chg.cs) :: Hx) ?_ ?_
    · by_cases h0 : v = []
      · (try (refine st_E39_1 ?_; intros))
        exact WQ.join ⟨q, cq, X, by rw [if_pos h0, List.append_nil], rfl, rfl, rfl, rfl⟩ zsb zpk
      · (refine st_E39_1 ?_; intros; rename_i x1 q2 cq2)
        have e1 : X.map Stp.cs ++ [[Value.int .i64 0, str [], str v]] = (X ++ [Stp.mk 0 [] v]).map Stp.cs := by simp [Stp.cs]
        have e2 : X.length + 1 = (X ++ [Stp.mk 0 [] v]).length := by simp
        rw [hXm, e1, e2]
        exact WQ.join ⟨q2, cq2, X ++ [Stp.mk 0 [] v], by rw [if_neg h0], rfl, rfl, rfl, rfl⟩ zsb zpk
    rintro _ _ _ _ ⟨q, cq, Y, hY, rfl, rfl, rfl, rfl⟩
    have hYl : Y.length ≤ 2 := by
      have h1 : (if v = [] then ([] : List Stp) else [⟨0, [], v⟩]).length ≤ 1 := by split <;> simp
      rw [hY, List.length_append]; omega
    have hYm : (Y.map Stp.cs).length = Y.length := by simp
    rw [← hY] at hnew
    (try (refine st_E39_1 ?_; intros))
    refine WC.join (fun r' ds' m' H' => ∃ (q : Option Addr) (cq : Nat) (Y : List Stp), Y = chg k v s.length ∧ r' = [(12, .slice q Y.length cq), (11, .int .i64 (k : Int)), (10, .int .i64 (i : Int)), (9, .int .i64 (sum : Int)), (8, .slice cl C.length cpl), (7, .int .i64 (n : Int)), (6, .int .i64 turn), (5, .slice (some d2) at_.length cb), (4, .slice (some d1) puts.length ca), (3, str s)] ∧ ds' = [] ∧ m = m' ∧ H' = .row q cq 59 3 (Y.map Stp.cs) :: .row cl cpl 22 1 (C.map Chg.cs) :: Hx) ?_ ?_
    · by_cases h0 : k < s.length
      · rw [if_pos h0] at hnew
        have eN : (s.length : Int) - (k : Int) = ((s.length - k : Nat) : Int) := by omega
        (refine st_E39_1 ?_; intros; rename_i x1 q2 cq2)
        have e1 : Y.map Stp.cs ++ [[Value.int .i64 ((s.length - k : Nat) : Int), str [], str []]] = (Y ++ [Stp.mk ((s.length - k : Nat) : Int) [] []]).map Stp.cs := by simp [Stp.cs]
        have e2 : Y.length + 1 = (Y ++ [Stp.mk ((s.length - k : Nat) : Int) [] []]).length := by simp
        rw [hYm, eN, e1, e2]
        exact WQ.join ⟨q2, cq2, Y ++ [Stp.mk ((s.length - k : Nat) : Int) [] []], hnew.symm, rfl, rfl, rfl, rfl⟩ zsb zpk
      · rw [if_neg h0, List.append_nil] at hnew
        (try (refine st_E39_1 ?_; intros))
        exact WQ.join ⟨q, cq, Y, hnew.symm, rfl, rfl, rfl, rfl⟩ zsb zpk
    rintro _ _ _ _ ⟨q, cq, Y, hY, rfl, rfl, rfl, rfl⟩
    have hCm : (C.map Chg.cs).length = C.length := by simp
    (refine st_E39_1 ?_; intros; rename_i x3 cl3 cpl3)
    have hr5 := hra (.row cl3 cpl3 22 1 (C.map Chg.cs ++ [[.slice q Y.length cq]]) :: .blk x3 (.cells [.slice q Y.length cq].toArray 22 (0, 0)) :: .row q cq 59 3 (Y.map Stp.cs) :: Hx)
    have e1 : C.map Chg.cs ++ [[.slice q Y.length cq]] = (C ++ [Chg.mk Y q cq]).map Chg.cs := by simp [Chg.cs]
    have e2 : C.length + 1 = (C ++ [Chg.mk Y q cq]).length := by simp
    have hsn : sum + v.length = lenS (vvOf puts) s (sentA (i + 1)) := by rw [(sentA_next i).1, len_next, hsum, hv0]
    by_cases hbig : sum + v.length ≤ 5000
    · (try (refine st_E39_1 ?_; intros))
      rw [hCm, e1, e2]
      refine WQ.next (n - (i + 1)) ⟨i + 1, C ++ [Chg.mk Y q cq], .row q cq 59 3 (Y.map Stp.cs) :: Hx, cl3, cpl3, sum + v.length, rfl, rfl, rfl, rfl, rfl, ?_, ?_, ?_, ?_, ?_⟩ (by omega) zsb zpk
      · omega
      · intro x hx
        rcases List.mem_append.1 hx with hx | hx
        · exact List.mem_cons_of_mem _ (hCi x hx)
        · rw [List.mem_singleton] at hx; subst hx; exact List.mem_cons_self
      · rw [List.map_append, hCl, List.range_succ, List.map_append]
        congr 1
        simp only [List.map_cons, List.map_nil]
        rw [hY, hk, hv0]
      · exact hsn
      · exact hbig
    · (try (refine st_E39_1 ?_; intros))
      (refine q_fin0 ?_)
      exact ⟨rfl, Mem.le.refl _⟩
  · obtain rfl : n = i := by omega
    (try (refine st_E39_1 ?_; intros))
    refine w_callF Try.func30 ?_ (hs := new_any (by omega) _ _ _)
    rintro v m H1 ⟨rfl, ba, rfl, rfl⟩
    (try (refine st_E39_1 ?_; intros))
    refine w_callF Try.func30 ?_ (hs := new_any (by omega) _ _ _)
    rintro v m H1 ⟨rfl, bb, rfl, rfl⟩
    (try (refine st_E39_1 ?_; intros))
    refine WC.newRow (T := 136) (sz := 3) ?_
    refine WC.newRow (T := 136) (sz := 3) ?_
    have hkt : ∀ g, kkOf s.length at_ g ≤ s.length := fun g => kk_le _ _ _
    clear hpl hal hps hat hra hrb hlt hi
    refine WC.loopH [(17, .int .i64 ((0) : Int)), (15, .pointer (some ⟨bb, 0, none⟩)), (13, .pointer (some ⟨ba, 0, none⟩)), (9, .int .i64 (sum : Int)), (8, .slice cl C.length cpl), (7, .int .i64 (n : Int)), (6, .int .i64 turn), (3, str s)] ?_ ?_ (fun j r ds m' H' => ∃ (i : Nat) (Hx : SHeap) (Ka : List Snt) (Kb : List Snt) (ra : Option Addr) (cra : Nat) (rb : Option Addr) (crb : Nat) (na : List UInt8) (nb : List UInt8) (La : List Nat) (Lb : List Nat), j = n - i ∧ r = [(17, .int .i64 (i : Int)), (15, .pointer (some ⟨bb, 0, none⟩)), (13, .pointer (some ⟨ba, 0, none⟩)), (9, .int .i64 (sum : Int)), (8, .slice cl C.length cpl), (7, .int .i64 (n : Int)), (6, .int .i64 turn), (3, str s)] ∧ ds = [] ∧ m = m' ∧ H' = .blk ba (.cells [str na, str s, .slice ra Ka.length cra].toArray 131 (0, 0)) :: .row ra cra 136 3 (Ka.map Snt.cs) :: .blk bb (.cells [str nb, str s, .slice rb Kb.length crb].toArray 131 (0, 0)) :: .row rb crb 136 3 (Kb.map Snt.cs) :: .row cl cpl 22 1 (C.map Chg.cs) :: Hx ∧ (i ≤ n) ∧ (∀ x ∈ C, x.it 59 ∈ Hx) ∧ ((∀ x ∈ Ka, x.it 59 ∈ Hx) ∧ (∀ x ∈ Kb, x.it 59 ∈ Hx)) ∧ ((∀ x ∈ Ka, Fit x.l ∧ -9223372036854775808 ≤ x.h ∧ x.h ≤ 9223372036854775807) ∧ (∀ x ∈ Kb, Fit x.l ∧ -9223372036854775808 ≤ x.h ∧ x.h ≤ 9223372036854775807)) ∧ (Ka.map Snt.hl = chR (kkOf s.length at_) (vvOf puts) s (sentA i) ∧ Kb.map Snt.hl = chR (kkOf s.length at_) (vvOf puts) s (sentB n turn i)) ∧ (La.Perm (sentA i) ∧ Lb.Perm (sentB n turn i)) ∧ (List.Pairwise (bef (kkOf s.length at_)) La ∧ List.Pairwise (bef (kkOf s.length at_)) Lb) ∧ (na = ctS (kkOf s.length at_) (vvOf puts) s La 0 ∧ nb = ctS (kkOf s.length at_) (vvOf puts) s Lb 0)) (n - (0)) ⟨0, Hx, ([] : List Snt), ([] : List Snt), none, 0, none, 0, s, s, ([] : List Nat), ([] : List Nat), rfl, rfl, rfl, rfl, rfl, Nat.zero_le _, hCi, by simp, by simp, by simp [sentA, sentB, chR], by exact ⟨.nil, .nil⟩, by exact ⟨.nil, .nil⟩, by simp [ctS]⟩ ?_
    · (repeat (first | exact Env.Sub.nil | refine Env.Sub.cons rfl ?_))
    · exact zpk
    rintro j r ds m' H' ⟨i, Hx, Ka, Kb, ra, cra, rb, crb, na, nb, La, Lb, rfl, rfl, rfl, rfl, rfl, hi, hCi, hKa, hFa, hCa, hLa, hSa, hNa⟩
    have hKal : Ka.length = i := by have := congrArg List.length hCa.1; rw [List.length_map, chR_len] at this; simpa [sentA] using this
    have hKbl : Kb.length = i := by have := congrArg List.length hCa.2; rw [List.length_map, chR_len] at this; simpa [sentB] using this
    have hCm : (C.map Chg.cs).length = C.length := by simp
    by_cases hlt : i < n
    · obtain ⟨x, hxm, hgx, hxl⟩ := chg_get hCl hlt
      obtain ⟨sa1, sa2, sa3⟩ := sentA_next i
      obtain ⟨sb1, sb2, sb3⟩ := sentB_next hlt turn
      have hfb := fb_lt hlt turn
      have hla : lenS (vvOf puts) s (sentA i) + (vvOf puts i).length ≤ 5000 := by
        have := len_less (vv := vvOf puts) (text := s) (R := sentA (i + 1)) (n := n) (by unfold sentA List.Nodup; rw [List.pairwise_reverse]; exact List.Pairwise.imp (fun h => h.symm) List.nodup_range) (fun g hg => by have := (sentA_next (i + 1)).2.2 g hg; omega)
        rw [sa1, len_next] at this
        omega
      have hNal : na.length ≤ 1000000 := by rw [hNa.1, (hand_more (vv := vvOf puts) hkt hLa.1 hSa.1 sa2).choose_spec.2.2.2]; omega
      obtain ⟨d, La', e1, e2, e3, e4, e5, e6⟩ := send_hand hkt hCa.1 hLa.1 hSa.1 sa2 hNa.1 (by omega) (by omega)
      rw [← hxl] at e1
      have hfx : Fit x.l := by
        rw [hxl]; exact chg_fit _ (hkt i) (by have : s.length ≤ lenS (vvOf puts) s (sentA i) := by (unfold lenS; omega)
                                              omega)
      refine WC.rowSome (a := cl) (es := C.map Chg.cs) zhs (by omega) ?_
      rintro dl rfl
      (try (refine st_E39_1 ?_; intros))
      refine w_callF Try.func31 ?_ (hs := send_gen (by omega) (fun x hx => (hFa.1 x hx).1) (fun x hx => (hFa.1 x hx).2) (by omega) hNal hfx _ _ _ (fun x hx => List.mem_cons_of_mem _ (List.mem_cons_of_mem _ (List.mem_cons_of_mem _ (hKa.1 x hx)))) (RowR.row (List.mem_cons_of_mem _ (List.mem_cons_of_mem _ (List.mem_cons_of_mem _ (hCi x hxm))))))
      rintro v m H1 ⟨rfl, hv⟩
      rw [e1] at hv
      obtain ⟨c1, cp1, a1, cap1, ra1, cra1, rfl, rfl⟩ := hv
      (try (refine st_E39_1 ?_; intros))
      refine WL.rem rfl rfl rfl (by omega) ?_
      have htm := tmod_bounds (n := n) (by omega) turn
      have hfk := fk_int (n := n) (i := i) (by omega) turn
      generalize hz : turn.tmod (n : Int) = z at *
      (try (refine st_E39_1 ?_; intros))
      refine WL.rem rfl rfl rfl (by omega) ?_
      have hz0 : (0 : Int) ≤ (i : Int) + z + (n : Int) := by omega
      have hfk2 : ((i : Int) + z + (n : Int)) % (n : Int) = (fk n turn i : Nat) := by rw [← hfk, Int.tmod_eq_emod_of_nonneg hz0]
      have hfkl := fk_lt (n := n) (by omega) turn i
      rw [hfk2]
      have hfbd : fb n turn i = if turn.tmod 2 ≠ 0 then n - 1 - fk n turn i else fk n turn i := by unfold fb; rfl
      clear hfk hfk2 htm hz
      (try (refine st_E39_1 ?_; intros))
      refine WC.join (fun r' ds' m' H' => r' = [(20, .int .i64 (fb n turn i : Int)), (19, .int .i64 0), (17, .int .i64 (i : Int)), (15, .pointer (some ⟨bb, 0, none⟩)), (13, .pointer (some ⟨ba, 0, none⟩)), (9, .int .i64 (sum : Int)), (8, .slice (some dl) C.length cpl), (7, .int .i64 (n : Int)), (6, .int .i64 turn), (3, str s)] ∧ ds' = [] ∧ m = m' ∧ H' = .blk ba (.cells [str (applyT na d), str s, .slice ra1 (Ka ++ [Snt.mk (i : Int) d true a1 cap1]).length cra1].toArray 131 (0, 0)) :: .row ra1 cra1 136 3 ((Ka ++ [Snt.mk (i : Int) d true a1 cap1]).map Snt.cs) :: .blk bb (.cells [str nb, str s, .slice rb Kb.length crb].toArray 131 (0, 0)) :: .row rb crb 136 3 (Kb.map Snt.cs) :: .row (some dl) cpl 22 1 (C.map Chg.cs) :: .row a1 cap1 59 3 (d.map Stp.cs) :: Hx) ?_ ?_
      · by_cases h0 : turn.tmod 2 = 0
        · rw [if_neg (by simp [h0])] at hfbd
          rw [hfbd]
          (try (refine st_E39_1 ?_; intros))
          exact WQ.join ⟨rfl, rfl, rfl, rfl⟩ zsb zpk
        · rw [if_pos h0] at hfbd
          have ez : (n : Int) - 1 - (fk n turn i : Int) = (fb n turn i : Int) := by omega
          (try (refine st_E39_1 ?_; intros))
          rw [ez]
          exact WQ.join ⟨rfl, rfl, rfl, rfl⟩ zsb zpk
      rintro _ _ _ _ ⟨rfl, rfl, rfl, rfl⟩
      obtain ⟨y, hym, hgy, hyl⟩ := chg_get hCl hfb
      have hlb : lenS (vvOf puts) s (sentB n turn i) + (vvOf puts (fb n turn i)).length ≤ 5000 := by
        have := len_less (vv := vvOf puts) (text := s) (R := sentB n turn (i + 1)) (n := n) ?_ (fun g hg => ?_)
        · rw [sb1, len_next] at this
          omega
        · rw [sb1]; exact List.nodup_cons.2 ⟨sb2, (sent_nodup (by omega) turn)⟩
        · rw [sb1, List.mem_cons] at hg
          rcases hg with rfl | hg
          · exact hfb
          · exact sb3 g hg
      have hNbl : nb.length ≤ 1000000 := by rw [hNa.2, (hand_more (vv := vvOf puts) hkt hLa.2 hSa.2 sb2).choose_spec.2.2.2]; omega
      obtain ⟨d2, Lb', f1, f2, f3, f4, f5, f6⟩ := send_hand hkt hCa.2 hLa.2 hSa.2 sb2 hNa.2 (by omega) (by omega)
      rw [← hyl] at f1
      have hfy : Fit y.l := by
        rw [hyl]; exact chg_fit _ (hkt _) (by have : s.length ≤ lenS (vvOf puts) s (sentB n turn i) := by (unfold lenS; omega)
                                              omega)
      generalize fb n turn i = q at *
      (try (refine st_E39_1 ?_; intros))
      refine WL.heap (H' := .blk bb (.cells [str nb, str s, .slice rb Kb.length crb].toArray 131 (0, 0)) :: .row rb crb 136 3 (Kb.map Snt.cs) :: .blk ba (.cells [str (applyT na d), str s, .slice ra1 (Ka ++ [Snt.mk (i : Int) d true a1 cap1]).length cra1].toArray 131 (0, 0)) :: .row ra1 cra1 136 3 ((Ka ++ [Snt.mk (i : Int) d true a1 cap1]).map Snt.cs) :: .row (some dl) cpl 22 1 (C.map Chg.cs) :: .row a1 cap1 59 3 (d.map Stp.cs) :: Hx) zpk ?_
      refine w_callF Try.func31 ?_ (hs := send_gen (by omega) (fun x hx => (hFa.2 x hx).1) (fun x hx => (hFa.2 x hx).2) (by omega) hNbl hfy _ _ _ (fun x hx => List.mem_cons_of_mem _ (List.mem_cons_of_mem _ (List.mem_cons_of_mem _ (List.mem_cons_of_mem _ (hKa.2 x hx))))) (RowR.row (List.mem_cons_of_mem _ (List.mem_cons_of_mem _ (List.mem_cons_of_mem _ (List.mem_cons_of_mem _ (hCi y hym)))))))
      rintro v m H1 ⟨rfl, hv⟩
      rw [f1] at hv
      obtain ⟨c2, cp2, a2, cap2, ra2, cra2, rfl, rfl⟩ := hv
      (try (refine st_E39_1 ?_; intros))
      refine WQ.next (n - (i + 1)) ⟨i + 1, .row a1 cap1 59 3 (d.map Stp.cs) :: .row a2 cap2 59 3 (d2.map Stp.cs) :: Hx, Ka ++ [Snt.mk (i : Int) d true a1 cap1], Kb ++ [Snt.mk (q : Int) d2 true a2 cap2], ra1, cra1, ra2, cra2, applyT na d, applyT nb d2, La', Lb', rfl, rfl, rfl, rfl, rfl, ?_, ?_, ?_, ?_, ?_, ?_, ?_, ?_⟩ (by omega) zsb zpk
      · omega
      · exact fun x hx => List.mem_cons_of_mem _ (List.mem_cons_of_mem _ (hCi x hx))
      · refine ⟨fun x hx => ?_, fun x hx => ?_⟩
        · rcases List.mem_append.1 hx with hx | hx
          · exact List.mem_cons_of_mem _ (List.mem_cons_of_mem _ (hKa.1 x hx))
          · rw [List.mem_singleton] at hx; subst hx; exact List.mem_cons_self
        · rcases List.mem_append.1 hx with hx | hx
          · exact List.mem_cons_of_mem _ (List.mem_cons_of_mem _ (hKa.2 x hx))
          · rw [List.mem_singleton] at hx; subst hx; exact List.mem_cons_of_mem _ List.mem_cons_self
      · refine ⟨fun x hx => ?_, fun x hx => ?_⟩
        · rcases List.mem_append.1 hx with hx | hx
          · exact hFa.1 x hx
          · rw [List.mem_singleton] at hx; subst hx; exact ⟨e2, by simp only; omega, by simp only; omega⟩
        · rcases List.mem_append.1 hx with hx | hx
          · exact hFa.2 x hx
          · rw [List.mem_singleton] at hx; subst hx; exact ⟨f2, by simp only; omega, by simp only; omega⟩
      · rw [sa1, sb1, chR, chR, List.map_append, List.map_append, hCa.1, hCa.2, ← e3, ← f3]
        exact ⟨rfl, rfl⟩
      · rw [sa1, sb1]; exact ⟨e4, f4⟩
      · exact ⟨e5, f5⟩
      · exact ⟨e6, f6⟩
    · obtain rfl : i = n := by omega
      have hab : La = Lb := sorted_one hSa.1 hSa.2 (hLa.1.trans ((sent_perm i turn).trans hLa.2.symm))
      have hnn : na = nb := by rw [hNa.1, hNa.2, hab]
      have hlen : na.length = sum := by
        rw [hNa.1, hsum, ← len_perm hLa.1]
        exact ct_len hkt La 0 (Nat.zero_le _) hSa.1 (fun _ _ => Nat.zero_le _)
      subst hnn
      have hva : atV na s Ka (i : Int) = okV na := by unfold atV; rw [if_neg (by omega), if_pos (by omega)]
      have hvb : atV na s Kb (i : Int) = okV na := by unfold atV; rw [if_neg (by omega), if_pos (by omega)]
      (try (refine st_E39_1 ?_; intros))
      refine w_callF Try.func32 ?_ (hs := at_gen (by omega) (fun x hx => (hFa.1 x hx).1) (by omega) _ _ _ (fun x hx => List.mem_cons_of_mem _ (List.mem_cons_of_mem _ (List.mem_cons_of_mem _ (hKa.1 x hx)))))
      rintro v m H1 ⟨rfl, rfl, rfl⟩
      rw [hva, okV]
      (try (refine st_E39_1 ?_; intros))
      refine WL.heap (H' := .blk bb (.cells [str na, str s, .slice rb Kb.length crb].toArray 131 (0, 0)) :: .row rb crb 136 3 (Kb.map Snt.cs) :: Hx) zpk ?_
      refine w_callF Try.func32 ?_ (hs := at_gen (by omega) (fun x hx => (hFa.2 x hx).1) (by omega) _ _ _ hKa.2)
      rintro v m H1 ⟨rfl, rfl, rfl⟩
      rw [hvb, okV]
      have hna : na = na := rfl
      (try (refine st_E39_1 ?_; intros))
      (refine q_fin0 ?_)
      exact ⟨by rw [hlen]; exact congrArg Value.bool (dcd_true rfl), Mem.le.refl _⟩
end Go.Proofs.Ytelgegefmjlimaa

/-
  How the law of many hands' argument is read. No condition.
-/
namespace Go.Eng
open Go Go.RowKit Go.ChangeShapes Go.WideShapes Go.ChangeMaps
section
variable {H : Type} {enc : TypeId × Value → H} {P : Program}
theorem okWide_leaf {W : World} {r : Go.Reach} {b0 : Nat} {t : TypeId} {v : Value} (h1 : ∀ fs, P.underlying t ≠ some (.struct fs)) (h2 : ∀ n e, P.underlying t ≠ some (.array n e)) (h : Cell.okWide P W r b0 t v) : Value.okWide P W r b0 t v := by
  unfold Value.okWide
  split
  · rename_i fs h3; exact absurd h3 (h1 fs)
  · rename_i n e h3; exact absurd h3 (h2 n e)
  · exact h
theorem open_hands {f0 f1 f2 f3 : Field} {e1 e2 : TypeId} {W : World} {r : Go.Reach} {b0 : Nat} {t : TypeId} {v : Value} {d : DataW H} {ps : List MemPlace} (ht : P.underlying t = some (.struct #[f0, f1, f2, f3])) (hc : P.cellsOf t = 4) (hct : P.cellTypes P.depth t = some [f0.type, f1.type, f2.type, f3.type])
    (h0 : f0.offset = 0 ∧ P.underlying f0.type = some .string ∧ P.cellsOf f0.type = 1) (h1 : f1.offset = 1 ∧ P.underlying f1.type = some (.slice e1) ∧ P.cellsOf f1.type = 1 ∧ P.underlying e1 = some .string ∧ P.cellsOf e1 = 1)
    (h2 : f2.offset = 2 ∧ P.underlying f2.type = some (.slice e2) ∧ P.cellsOf f2.type = 1 ∧ P.underlying e2 = some (.int .i64) ∧ P.cellsOf e2 = 1) (h3 : f3.offset = 3 ∧ P.underlying f3.type = some (.int .i64) ∧ P.cellsOf f3.type = 1)
    (hval : Value.okWide P W r b0 t v) (h : DataW.Trod enc P W 0 (fun _ => true) true t v d ps) :
    ∃ (s : List UInt8) (pa pb : Option Addr) (ca cb : Nat) (puts : List (List UInt8)) (at_ : List Int) (turn : Int) (d1 d2 : DataW H), v = .agg #[str s, .slice pa puts.length ca, .slice pb at_.length cb, .int .i64 turn] ∧ (∀ x ∈ at_, (Lit.int .i64 x).wf = true) ∧ (Lit.int .i64 turn).wf = true ∧
      d = .agg [.lit (.string s), d1, d2, .lit (.int .i64 turn)] ∧ (∃ sp, d1 = .nil ∧ puts = [] ∨ d1 = .slice (puts.map fun x => .lit (.string x)) sp) ∧ (∃ sp, d2 = .nil ∧ at_ = [] ∨ d2 = .slice (at_.map fun x => .lit (.int .i64 x)) sp) ∧
      (∀ w0 Hp, RowR w0 (memOf W) Hp 1 pa (puts.map fun x => [str x])) ∧ (∀ w0 Hp, RowR w0 (memOf W) Hp 1 pb (at_.map fun x => [Value.int .i64 x])) := by
  have hv := hval
  unfold Value.okWide at hv
  rw [ht] at hv
  obtain ⟨cs, rfl, hsz, ts, hts, _, hcell⟩ := hv
  rw [hct] at hts
  cases hts
  rw [hc] at hsz
  obtain ⟨c0, c1, c2, c3, rfl⟩ : ∃ c0 c1 c2 c3, cs = #[c0, c1, c2, c3] := by
    obtain ⟨l⟩ := cs
    match l, hsz with
    | [c0, c1, c2, c3], _ => exact ⟨c0, c1, c2, c3, rfl⟩
  obtain ⟨u0, g0, k0⟩ := hcell 0 c0 rfl
  obtain ⟨u1, g1, k1⟩ := hcell 1 c1 rfl
  obtain ⟨u2, g2, k2⟩ := hcell 2 c2 rfl
  obtain ⟨u3, g3, k3⟩ := hcell 3 c3 rfl
  cases g0; cases g1; cases g2; cases g3
  obtain ⟨n, hn⟩ := h
  obtain ⟨xs, n', _, hx, hl, hlen, hf⟩ := DataW.trod_struct ht hn
  match xs, hlen with
  | [y0, y1, y2, y3], _ =>
    have q0 := hf 0 f0 rfl
    have q1 := hf 1 f1 rfl
    have q2 := hf 2 f2 rfl
    have q3 := hf 3 f3 rfl
    rw [h0.1, h0.2.2] at q0
    rw [h1.1, h1.2.2.1] at q1
    rw [h2.1, h2.2.2.1] at q2
    rw [h3.1, h3.2.2] at q3
    have nos : ∀ {t' : TypeId} {e : TypeId}, P.underlying t' = some (.slice e) → (∀ fs, P.underlying t' ≠ some (.struct fs)) ∧ (∀ n e, P.underlying t' ≠ some (.array n e)) := fun h => ⟨fun fs h' => (by rw [h] at h'; cases h'), fun n e h' => (by rw [h] at h'; cases h')⟩
    have v1 := okWide_leaf (nos h1.2.1).1 (nos h1.2.1).2 k1
    have v2 := okWide_leaf (nos h2.2.1).1 (nos h2.2.1).2 k2
    obtain ⟨a1, l1, p1, e1'⟩ := okWide_slice h1.2.1 v1
    obtain ⟨a2, l2, p2, e2'⟩ := okWide_slice h2.2.1 v2
    subst e1' e2'
    obtain ⟨x0, b0', d0, w0⟩ := DataW.trod_string h0.2.1 q0
    obtain ⟨x3, b3, d3, w3⟩ := DataW.trod_int h3.2.1 q3
    obtain ⟨pa, ca, puts, sp1, r1, r2, r3, r4⟩ := open_texts (d := y1.1) (ps := y1.2) h1.2.1 h1.2.2.2.1 h1.2.2.2.2 v1 ⟨n', q1⟩
    obtain ⟨pb, cb, at_, sp2, s1, s2, s3, s4, s5⟩ := open_nums (d := y2.1) (ps := y2.2) h2.2.1 h2.2.2.2.1 h2.2.2.2.2 v2 ⟨n', q2⟩
    simp [Value.cells] at b0' b3
    refine ⟨x0.data.toList, pa, pb, ca, cb, puts, at_, x3, y1.1, y2.1, ?_, s3, w3, ?_, ⟨sp1, r3⟩, ⟨sp2, s4⟩, r4, s5⟩
    · rw [b0', b3, r1, s1]
    · have := congrArg Prod.fst hx
      simp only at this
      rw [this]
      simp [d0, d3]
end
end Go.Eng
namespace Go.Proofs.Ytelgegefmjlimaa
open Go Go.Eng
theorem hands_bulk {H : Type} {s : List UInt8} {us : List (List UInt8)} {ks : List Int} {tu : Int} {d1 d2 : DataW H} (h1 : ∃ sp, d1 = .nil ∧ us = [] ∨ d1 = .slice (us.map fun x => .lit (.string x)) sp) (h2 : ∃ sp, d2 = .nil ∧ ks = [] ∨ d2 = .slice (ks.map fun x => .lit (.int .i64 x)) sp)
    (hb : Rows.uptoBulk (.agg [.lit (.string s), d1, d2, .lit (.int .i64 tu)]) ≤ 1048576) : s.length ≤ 1048576 ∧ us.length ≤ 1048576 ∧ ks.length ≤ 1048576 ∧ ∀ x ∈ us, x.length ≤ 1048576 := by
  have hb2 : s.length + Rows.uptoBulk d1 + Rows.uptoBulk d2 ≤ 1048576 := by
    simp only [Rows.uptoBulk, Rows.uptoBulkAll] at hb; omega
  have l1 : us.length ≤ Rows.uptoBulk d1 ∧ ∀ x ∈ us, x.length ≤ Rows.uptoBulk d1 := by
    obtain ⟨sp, ⟨rfl, rfl⟩ | rfl⟩ := h1
    · simp
    · have key : ∀ l : List (List UInt8), l.length ≤ Rows.uptoBulkAll (l.map fun x => DataW.lit (H := H) (.string x)) ∧ ∀ x ∈ l, x.length ≤ Rows.uptoBulkAll (l.map fun x => DataW.lit (H := H) (.string x)) := by
        intro l
        induction l with
        | nil => simp
        | cons x l ih =>
          simp only [List.map_cons, Rows.uptoBulkAll, Rows.uptoBulk, List.length_cons]
          refine ⟨by omega, fun y hy => ?_⟩
          rcases List.mem_cons.1 hy with rfl | hy
          · omega
          · have := ih.2 y hy; omega
      obtain ⟨k1, k2⟩ := key us
      simp only [Rows.uptoBulk]
      exact ⟨by omega, fun x hx => by have := k2 x hx; omega⟩
  have l2 : ks.length ≤ Rows.uptoBulk d2 := by
    obtain ⟨sp, ⟨rfl, rfl⟩ | rfl⟩ := h2
    · simp
    · have key : ∀ l : List Int, l.length ≤ Rows.uptoBulkAll (l.map fun x => DataW.lit (H := H) (.int .i64 x)) := by
        intro l
        induction l with
        | nil => simp
        | cons x l ih => simp only [List.map_cons, Rows.uptoBulkAll, Rows.uptoBulk, List.length_cons]; omega
      have := key ks
      simp only [Rows.uptoBulk]
      omega
  exact ⟨by omega, by omega, by omega, fun x hx => by have := l1.2 x hx; omega⟩
end Go.Proofs.Ytelgegefmjlimaa

/-
  What the law EditHands stands on, in one text. No condition.
-/

