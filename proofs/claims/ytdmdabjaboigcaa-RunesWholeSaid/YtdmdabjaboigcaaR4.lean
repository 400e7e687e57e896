/-
  The walks of package runes and of its reference, fourth part: the piece at a place. No condition.
-/
import Derived.Test.YtdmdabjaboigcaaR3
namespace Go.Proofs.Ytdmdabjaboigcaa
open Go Go.Eng
set_option maxRecDepth 100000
set_option maxHeartbeats 4000000
set_option linter.all false
attribute [local irreducible] WL WC WQ QFun QLoop Does Q1 QRound QAssign Go.Addr.add
theorem sq_R4_1 {G : Prop} (h : G := by (repeat (first | (refine sp ?_; (repeat intro zzc)) | (refine iF 67 rfl ?_; refine w_callG Try.func67 ?_ (hs := read_any _ _ (by omega) (by omega) _ _ _)) | (refine iF 72 rfl ?_; refine w_callG Try.func72 ?_ (hs := none_any _ _ _ _)) | (refine iF 35 rfl ?_; refine w_callG Try.func35 ?_ (hs := rwidth_any _ _ _ _)) | (refine iF 37 rfl ?_; refine w_callG Try.func37 ?_ (hs := rencode_any _ _ _ _)))); exact WQ.q1 rfl) : G := h
theorem st_R4_1 {G G' : Prop} (next : G') (h : Bx G' → G := by intro zzn; (first | ((refine st ?_; (repeat intro zzc)); (try ((first | (refine iF 67 rfl ?_; refine w_callG Try.func67 ?_ (hs := read_any _ _ (by omega) (by omega) _ _ _)) | (refine iF 72 rfl ?_; refine w_callG Try.func72 ?_ (hs := none_any _ _ _ _)) | (refine iF 35 rfl ?_; refine w_callG Try.func35 ?_ (hs := rwidth_any _ _ _ _)) | (refine iF 37 rfl ?_; refine w_callG Try.func37 ?_ (hs := rencode_any _ _ _ _)) | ((refine iDraw ?_; (first | refine WC.drawAll rfl (by decide +kernel) ?_ | refine WC.draw 1 rfl (by decide +kernel) ?_ | refine WC.draw 2 rfl (by decide +kernel) ?_ | refine WC.draw 3 rfl (by decide +kernel) ?_ | refine WC.draw 4 rfl (by decide +kernel) ?_ | refine WC.draw 5 rfl (by decide +kernel) ?_ | refine WC.draw 6 rfl (by decide +kernel) ?_ | refine WC.draw 7 rfl (by decide +kernel) ?_ | refine WC.draw 8 rfl (by decide +kernel) ?_ | refine WC.draw 9 rfl (by decide +kernel) ?_ | refine WC.draw 10 rfl (by decide +kernel) ?_ | refine WC.draw 11 rfl (by decide +kernel) ?_ | refine WC.draw 12 rfl (by decide +kernel) ?_ | refine WC.draw 13 rfl (by decide +kernel) ?_ | refine WC.draw 14 rfl (by decide +kernel) ?_ | refine WC.draw 15 rfl (by decide +kernel) ?_ | refine WC.draw 16 rfl (by decide +kernel) ?_ | refine WC.draw 17 rfl (by decide +kernel) ?_ | refine WC.draw 18 rfl (by decide +kernel) ?_ | refine WC.draw 19 rfl (by decide +kernel) ?_ | refine WC.draw 20 rfl (by decide +kernel) ?_ | refine WC.draw 21 rfl (by decide +kernel) ?_ | refine WC.draw 22 rfl (by decide +kernel) ?_ | refine WC.draw 23 rfl (by decide +kernel) ?_ | refine WC.draw 24 rfl (by decide +kernel) ?_)); (repeat (refine WD.cons rfl (fun c h => by cases h) sq_R4_1 ?_)); refine WD.nil ?_)); (try (refine st ?_; (repeat intro zzc)))))) | ((first | (refine iF 67 rfl ?_; refine w_callG Try.func67 ?_ (hs := read_any _ _ (by omega) (by omega) _ _ _)) | (refine iF 72 rfl ?_; refine w_callG Try.func72 ?_ (hs := none_any _ _ _ _)) | (refine iF 35 rfl ?_; refine w_callG Try.func35 ?_ (hs := rwidth_any _ _ _ _)) | (refine iF 37 rfl ?_; refine w_callG Try.func37 ?_ (hs := rencode_any _ _ _ _)) | ((refine iDraw ?_; (first | refine WC.drawAll rfl (by decide +kernel) ?_ | refine WC.draw 1 rfl (by decide +kernel) ?_ | refine WC.draw 2 rfl (by decide +kernel) ?_ | refine WC.draw 3 rfl (by decide +kernel) ?_ | refine WC.draw 4 rfl (by decide +kernel) ?_ | refine WC.draw 5 rfl (by decide +kernel) ?_ | refine WC.draw 6 rfl (by decide +kernel) ?_ | refine WC.draw 7 rfl (by decide +kernel) ?_ | refine WC.draw 8 rfl (by decide +kernel) ?_ | refine WC.draw 9 rfl (by decide +kernel) ?_ | refine WC.draw 10 rfl (by decide +kernel) ?_ | refine WC.draw 11 rfl (by decide +kernel) ?_ | refine WC.draw 12 rfl (by decide +kernel) ?_ | refine WC.draw 13 rfl (by decide +kernel) ?_ | refine WC.draw 14 rfl (by decide +kernel) ?_ | refine WC.draw 15 rfl (by decide +kernel) ?_ | refine WC.draw 16 rfl (by decide +kernel) ?_ | refine WC.draw 17 rfl (by decide +kernel) ?_ | refine WC.draw 18 rfl (by decide +kernel) ?_ | refine WC.draw 19 rfl (by decide +kernel) ?_ | refine WC.draw 20 rfl (by decide +kernel) ?_ | refine WC.draw 21 rfl (by decide +kernel) ?_ | refine WC.draw 22 rfl (by decide +kernel) ?_ | refine WC.draw 23 rfl (by decide +kernel) ?_ | refine WC.draw 24 rfl (by decide +kernel) ?_)); (repeat (refine WD.cons rfl (fun c h => by cases h) sq_R4_1 ?_)); refine WD.nil ?_)); (try (refine st ?_; (repeat intro zzc))))); (repeat ((first | (refine iF 67 rfl ?_; refine w_callG Try.func67 ?_ (hs := read_any _ _ (by omega) (by omega) _ _ _)) | (refine iF 72 rfl ?_; refine w_callG Try.func72 ?_ (hs := none_any _ _ _ _)) | (refine iF 35 rfl ?_; refine w_callG Try.func35 ?_ (hs := rwidth_any _ _ _ _)) | (refine iF 37 rfl ?_; refine w_callG Try.func37 ?_ (hs := rencode_any _ _ _ _)) | ((refine iDraw ?_; (first | refine WC.drawAll rfl (by decide +kernel) ?_ | refine WC.draw 1 rfl (by decide +kernel) ?_ | refine WC.draw 2 rfl (by decide +kernel) ?_ | refine WC.draw 3 rfl (by decide +kernel) ?_ | refine WC.draw 4 rfl (by decide +kernel) ?_ | refine WC.draw 5 rfl (by decide +kernel) ?_ | refine WC.draw 6 rfl (by decide +kernel) ?_ | refine WC.draw 7 rfl (by decide +kernel) ?_ | refine WC.draw 8 rfl (by decide +kernel) ?_ | refine WC.draw 9 rfl (by decide +kernel) ?_ | refine WC.draw 10 rfl (by decide +kernel) ?_ | refine WC.draw 11 rfl (by decide +kernel) ?_ | refine WC.draw 12 rfl (by decide +kernel) ?_ | refine WC.draw 13 rfl (by decide +kernel) ?_ | refine WC.draw 14 rfl (by decide +kernel) ?_ | refine WC.draw 15 rfl (by decide +kernel) ?_ | refine WC.draw 16 rfl (by decide +kernel) ?_ | refine WC.draw 17 rfl (by decide +kernel) ?_ | refine WC.draw 18 rfl (by decide +kernel) ?_ | refine WC.draw 19 rfl (by decide +kernel) ?_ | refine WC.draw 20 rfl (by decide +kernel) ?_ | refine WC.draw 21 rfl (by decide +kernel) ?_ | refine WC.draw 22 rfl (by decide +kernel) ?_ | refine WC.draw 23 rfl (by decide +kernel) ?_ | refine WC.draw 24 rfl (by decide +kernel) ?_)); (repeat (refine WD.cons rfl (fun c h => by cases h) sq_R4_1 ?_)); refine WD.nil ?_)); (try (refine st ?_; (repeat intro zzc))))); (repeat revert zzc); exact zzn.out) : G := h ⟨next⟩
theorem gb_le (l : List UInt8) (k : Nat) : gb l k ≤ 255 := by
  have : ∀ x : UInt8, x.toNat ≤ 255 := fun x => by have := x.toNat_lt; omega
  exact this _
def zeroP : Value := .agg #[.int .i64 0, .int .i64 0, .int .i32 0, .bool false]
theorem at_in (l : List UInt8) (k : Nat) (hl : l.length ≤ 9223372036854775804) (hk : k < l.length) (w0 : World) (m : Mem) (H : SHeap) :
    Does Try.prog 16 #[str l, .int .i64 (k : Int)] w0 m H (Gives (.tuple #[(readP l k).v, .int .i64 0]) m H) := by
  refine Does.of_body (args := [str l, .int .i64 (k : Int)]) Try.func16 rfl Try.ntmps16 rfl ?_
  (try (refine st_R4_1 ?_; intros))
  (refine q_fin0 ?_)
  exact Gives.mk rfl
theorem at_out (l : List UInt8) (k : Int) (hk : k < 0 ∨ (l.length : Int) ≤ k) (w0 : World) (m : Mem) (H : SHeap) :
    Does Try.prog 16 #[str l, .int .i64 k] w0 m H (Gives (.tuple #[zeroP, .int .i64 5]) m H) := by
  refine Does.of_body (args := [str l, .int .i64 k]) Try.func16 rfl Try.ntmps16 rfl ?_
  (repeat' (first | (refine st_R4_1 ?_; intros) | (first | refine c_ways (fun h1 => ?_) (fun h1 => ?_) | refine c_nways (fun h1 => ?_) (fun h1 => ?_) | refine w_gways (fun h1 => ?_) (fun h1 => ?_) | refine w_gnways (fun h1 => ?_) (fun h1 => ?_))))
  all_goals ((refine q_fin0 ?_); exact Gives.mk rfl)
/-- the reference's Form: the rune that begins there, and its width; or nothing -/
def formN (l : List UInt8) : Nat × Nat := if dl l = (65533, 1) then (0, 0) else dl l
def cv (l : List UInt8) (n : Nat) : Nat → Int
  | 0 => if n = 1 then (gb l 0 : Int) else (gb l 0 : Int) - (256 - 2 ^ (8 - n))
  | i + 1 => cv l n i * 64 + gb l (i + 1) - 128
theorem cv_bound {l : List UInt8} {n i : Nat} (h1 : 2 ≤ n) (h2 : n ≤ 4) (h3 : i ≤ 3) : -64000000 ≤ cv l n i ∧ cv l n i ≤ 64000000 ∧ (i ≤ 2 → -1000000 ≤ cv l n i ∧ cv l n i ≤ 1000000) := by
  have g0 := gb_le l 0
  have g1 := gb_le l 1
  have g2 := gb_le l 2
  have g3 := gb_le l 3
  have hp : (16 : Int) ≤ 2 ^ (8 - n) ∧ (2 : Int) ^ (8 - n) ≤ 64 := by
    obtain rfl | rfl | rfl : n = 2 ∨ n = 3 ∨ n = 4 := by omega
    all_goals decide
  have c0 : cv l n 0 = (gb l 0 : Int) - (256 - 2 ^ (8 - n)) := by rw [cv, if_neg (by omega)]
  have c1 : cv l n 1 = cv l n 0 * 64 + gb l 1 - 128 := rfl
  have c2 : cv l n 2 = cv l n 1 * 64 + gb l 2 - 128 := rfl
  have c3 : cv l n 3 = cv l n 2 * 64 + gb l 3 - 128 := rfl
  generalize (2 : Int) ^ (8 - n) = p at *
  obtain rfl | rfl | rfl | rfl : i = 0 ∨ i = 1 ∨ i = 2 ∨ i = 3 := by omega
  all_goals omega
theorem cv_of_begins {L : List UInt8} {c : Nat} (hc : okr c) (h : begins L c) : cv L (wd c) (wd c - 1) = (c : Int) := by
  have hc' := okr_le hc
  have g := h.2
  have c0 : cv L (wd c) 0 = if wd c = 1 then (gb L 0 : Int) else (gb L 0 : Int) - (256 - 2 ^ (8 - wd c)) := rfl
  have c1 : cv L (wd c) 1 = cv L (wd c) 0 * 64 + gb L 1 - 128 := rfl
  have c2 : cv L (wd c) 2 = cv L (wd c) 1 * 64 + gb L 2 - 128 := rfl
  have c3 : cv L (wd c) 3 = cv L (wd c) 2 * 64 + gb L 3 - 128 := rfl
  have g0 : 0 < wd c → gb L 0 = (fm c).getD 0 0 := g 0
  have g1 : 1 < wd c → gb L 1 = (fm c).getD 1 0 := g 1
  have g2 : 2 < wd c → gb L 2 = (fm c).getD 2 0 := g 2
  have g3 : 3 < wd c → gb L 3 = (fm c).getD 3 0 := g 3
  unfold fm at g0 g1 g2 g3
  unfold wd at *
  by_cases h3 : c < 128
  · simp only [h3, if_true] at *
    simp at g0
    simp [c0, g0]
  · simp only [h3, if_false] at *
    by_cases h4 : c < 2048
    · simp only [h4, if_true] at *
      simp at g0 g1 c0 ⊢
      rw [c1, c0]; omega
    · simp only [h4, if_false] at *
      by_cases h5 : c < 65536
      · simp only [h5, if_true] at *
        simp at g0 g1 g2 c0 ⊢
        rw [c2, c1, c0]; omega
      · simp only [h5, if_false] at *
        simp at g0 g1 g2 g3 c0 ⊢
        rw [c3, c2, c1, c0]; omega
theorem form_yes {L : List UInt8} {n : Nat} (hv : ¬ Utf8.valid (cv L n (n - 1)) = false) (hw : rwd (cv L n (n - 1)) = n) (hn : n ≤ L.length) (he : fmb (rn (cv L n (n - 1))) = L.take n) : formN L = (rn (cv L n (n - 1)), n) ∧ cv L n (n - 1) = (rn (cv L n (n - 1)) : Int) := by
  generalize cv L n (n - 1) = q at *
  obtain ⟨h1, _⟩ | ⟨_, h2⟩ := rn_cases q
  · exact absurd h1 hv
  have hok := rn_ok q
  generalize rn q = c at *
  subst h2
  rw [rwd_okr hok] at hw
  subst hw
  have hd := dl_of_begins hok ((begins_iff L c (okr_le hok)).2 he.symm)
  refine ⟨?_, rfl⟩
  rw [formN, if_neg, hd]
  rw [hd]
  intro h
  have h1 : c = 65533 := congrArg Prod.fst h
  have h2 : wd c = 1 := congrArg Prod.snd h
  rw [h1] at h2
  cases h2
theorem form_no {L : List UInt8} {n : Nat} (h : ¬ (¬ Utf8.valid (cv L n (n - 1)) = false ∧ rwd (cv L n (n - 1)) = n ∧ fmb (rn (cv L n (n - 1))) = L.take n)) : ∀ c, okr c → wd c = n → ¬ begins L c := by
  rintro c hok rfl hb
  have hcv := cv_of_begins hok hb
  apply h
  rw [hcv, rwd_okr hok, rn_nat hok, (valid_nat c).2 hok]
  exact ⟨by simp, rfl, ((begins_iff L c (okr_le hok)).1 hb).symm⟩
theorem form_any (l : List UInt8) (k : Nat) (hl : l.length ≤ 9223372036854775804) (hk : k < l.length) (w0 : World) (m : Mem) (H : SHeap) :
    Does Try.prog 68 #[str l, .int .i64 (k : Int)] w0 m H (Gives (.tuple #[.int .i32 ((formN (l.drop k)).1 : Int), .int .i64 ((formN (l.drop k)).2 : Int)]) m H) := by
  refine Does.of_body (args := [str l, .int .i64 (k : Int)]) Try.func68 rfl Try.ntmps68 rfl ?_
  (try (refine st_R4_1 ?_; intros))
  refine WC.loopW [(6, .int .i64 1), (0, str l), (1, .int .i64 (k : Int))] ?_ (fun j r ds m' H' => ∃ n : Nat, j = 5 - n ∧ 1 ≤ n ∧ n ≤ 5 ∧ r = [(6, .int .i64 (n : Int)), (0, str l), (1, .int .i64 (k : Int))] ∧ ds = [] ∧ m' = m ∧ H' = H ∧ ∀ c, okr c → wd c < n → ¬ begins (l.drop k) c) 4
    ⟨1, rfl, by omega, by omega, rfl, rfl, rfl, rfl, fun c _ h => by have := wd_pos c; omega⟩ ?_
  · (repeat (first | exact Env.Sub.nil | refine Env.Sub.cons rfl ?_))
  rintro j r ds m' H' ⟨n, rfl, h1, h2, rfl, rfl, rfl, rfl, hno⟩
  have hb := gb_le l k
  generalize hL : l.drop k = L at hno ⊢
  have hLl : L.length = l.length - k := by rw [← hL, List.length_drop]
  have hg : ∀ i, gb L i = gb l (k + i) := fun i => by rw [← hL]; exact nb_drop l k i
  have hg0 : gb L 0 = gb l k := hg 0
  (try (refine st_R4_1 ?_; intros))
  (first | refine c_ways (fun h3 => ?_) (fun h3 => ?_) | refine c_nways (fun h3 => ?_) (fun h3 => ?_) | refine w_gways (fun h3 => ?_) (fun h3 => ?_) | refine w_gnways (fun h3 => ?_) (fun h3 => ?_))
  · (try (refine st_R4_1 ?_; intros))
    (first | refine c_ways (fun h4 => ?_) (fun h4 => ?_) | refine c_nways (fun h4 => ?_) (fun h4 => ?_) | refine w_gways (fun h4 => ?_) (fun h4 => ?_) | refine w_gnways (fun h4 => ?_) (fun h4 => ?_))
    · (try (refine st_R4_1 ?_; intros))
      refine WC.join (fun r' ds' m1 H1 => r' = [(6, .int .i64 (n : Int)), (0, str l), (1, .int .i64 (k : Int)), (7, .int .i32 (cv L n 0))] ∧ ds' = [] ∧ m1 = m' ∧ H1 = H') ?_ ?_
      · (try (refine st_R4_1 ?_; intros))
        (first | refine c_ways (fun h5 => ?_) (fun h5 => ?_) | refine c_nways (fun h5 => ?_) (fun h5 => ?_) | refine w_gways (fun h5 => ?_) (fun h5 => ?_) | refine w_gnways (fun h5 => ?_) (fun h5 => ?_))
        · (try (refine st_R4_1 ?_; intros))
          apply WL.shl (e := 8 - n)
          · exact rfl
          · exact rfl
          · omega
          · simp [IntKind.bits]; omega
          · exact rfl
          obtain ⟨p, hp, hp1, hp2⟩ : ∃ p : Nat, p = 2 ^ (8 - n) ∧ 16 ≤ p ∧ p ≤ 64 := by
            obtain rfl | rfl | rfl : n = 2 ∨ n = 3 ∨ n = 4 := by omega
            all_goals exact ⟨_, rfl, by decide, by decide⟩
          refine WL.rename 30 (u := .int .i32 (p : Int)) rfl (vi ?_) ?_
          · rw [IntKind.wrap_i32, show (1 * 2 ^ (8 - n) : Int) = (p : Int) by rw [hp]; simp]; omega
          (try (refine st_R4_1 ?_; intros))
          refine WQ.join ⟨rfl, rfl, rfl, rfl⟩ ?_ (fun w h => h)
          rw [cv, if_neg (by omega), hg0, show (2 ^ (8 - n) : Int) = (p : Int) by rw [hp]; simp]
          (repeat (first | exact Env.Sub.nil | refine Env.Sub.cons rfl ?_))
        · (try (refine st_R4_1 ?_; intros))
          refine WQ.join ⟨rfl, rfl, rfl, rfl⟩ ?_ (fun w h => h)
          rw [cv, if_pos (by omega), hg0]
          (repeat (first | exact Env.Sub.nil | refine Env.Sub.cons rfl ?_))
      rintro _ _ m' H' ⟨rfl, rfl, rfl, rfl⟩
      (try (refine st_R4_1 ?_; intros))
      refine WC.loopW [(8, .int .i64 1), (6, .int .i64 (n : Int)), (0, str l), (1, .int .i64 (k : Int)), (7, .int .i32 (cv L n 0))] ?_ (fun j r ds m1 H1 => ∃ i : Nat, j = n - i ∧ 1 ≤ i ∧ i ≤ n ∧ r = [(8, .int .i64 (i : Int)), (6, .int .i64 (n : Int)), (0, str l), (1, .int .i64 (k : Int)), (7, .int .i32 (cv L n (i - 1)))] ∧ ds = [] ∧ m1 = m' ∧ H1 = H') (n - 1)
        ⟨1, rfl, by omega, by omega, rfl, rfl, rfl, rfl⟩ ?_
      · (repeat (first | exact Env.Sub.nil | refine Env.Sub.cons rfl ?_))
      rintro j r ds m1 H1 ⟨i, rfl, hi1, hi2, rfl, rfl, rfl, rfl⟩
      (try (refine st_R4_1 ?_; intros))
      (first | refine c_ways (fun h5 => ?_) (fun h5 => ?_) | refine c_nways (fun h5 => ?_) (fun h5 => ?_) | refine w_gways (fun h5 => ?_) (fun h5 => ?_) | refine w_gnways (fun h5 => ?_) (fun h5 => ?_))
      · have hcb := cv_bound (l := L) (n := n) (i := i - 1) (by omega) (by omega) (by omega)
        have hcs : cv L n i = cv L n (i - 1) * 64 + gb l (k + i) - 128 := by
          obtain ⟨i', rfl⟩ : ∃ i', i = i' + 1 := ⟨i - 1, by omega⟩
          rw [← hg]; rfl
        generalize cv L n (i - 1) = q at *
        have hb2 := gb_le l (k + i)
        (try (refine st_R4_1 ?_; intros))
        rw [← hcs]
        refine WQ.next (n - (i + 1)) ⟨i + 1, rfl, by omega, by omega, rfl, rfl, rfl, rfl⟩ (by omega) ?_ (fun w h => h)
        rw [Nat.add_sub_cancel]
        (repeat (first | exact Env.Sub.nil | refine Env.Sub.cons rfl ?_))
      · obtain rfl : i = n := by omega
        have hA := form_yes (L := L) (n := i)
        have hB := form_no (L := L) (n := i)
        generalize cv L i (i - 1) = q at *
        have hsl : (l.take (k + i)).drop k = L.take i := by rw [take_drop_swap, hL]
        by_cases hv : Utf8.valid q = false
        · (try (refine st_R4_1 ?_; intros))
          exact WQ.next (5 - (i + 1)) ⟨i + 1, rfl, by omega, by omega, rfl, rfl, rfl, rfl, fun c hc hcw => by
            rcases Nat.lt_or_ge (wd c) i with h | h
            · exact hno c hc h
            · exact hB (fun h => h.1 hv) c hc (by omega)⟩ (by omega) (by (repeat (first | exact Env.Sub.nil | refine Env.Sub.cons rfl ?_))) (fun w h => h)
        · by_cases hw : rwd q = i
          · (try (refine st_R4_1 ?_; intros))
            (first | refine c_ways (fun h6 => ?_) (fun h6 => ?_) | refine c_nways (fun h6 => ?_) (fun h6 => ?_) | refine w_gways (fun h6 => ?_) (fun h6 => ?_) | refine w_gnways (fun h6 => ?_) (fun h6 => ?_))
            · obtain ⟨e1, e2⟩ := hA hv hw (by omega) (by rw [← hsl]; exact h6)
              (try (refine st_R4_1 ?_; intros))
              (refine q_fin0 ?_)
              rw [e1, ← e2]
              exact Gives.mk rfl
            · (try (refine st_R4_1 ?_; intros))
              exact WQ.next (5 - (i + 1)) ⟨i + 1, rfl, by omega, by omega, rfl, rfl, rfl, rfl, fun c hc hcw => by
            rcases Nat.lt_or_ge (wd c) i with h | h
            · exact hno c hc h
            · exact hB (fun h => h6 (by rw [hsl]; exact h.2.2)) c hc (by omega)⟩ (by omega) (by (repeat (first | exact Env.Sub.nil | refine Env.Sub.cons rfl ?_))) (fun w h => h)
          · (try (refine st_R4_1 ?_; intros))
            exact WQ.next (5 - (i + 1)) ⟨i + 1, rfl, by omega, by omega, rfl, rfl, rfl, rfl, fun c hc hcw => by
            rcases Nat.lt_or_ge (wd c) i with h | h
            · exact hno c hc h
            · exact hB (fun h => hw h.2.1) c hc (by omega)⟩ (by omega) (by (repeat (first | exact Env.Sub.nil | refine Env.Sub.cons rfl ?_))) (fun w h => h)
    · (try (refine st_R4_1 ?_; intros))
      (refine q_fin0 ?_)
      have : formN L = (0, 0) := by
        rcases dl_cases L (by omega) with ⟨g1, g2, g3⟩ | ⟨g1, _⟩
        · exact absurd g3 (hno _ g1 (by have := g3.1; omega))
        · rw [formN, if_pos g1]
      rw [this]
      exact Gives.mk rfl
  · (try (refine st_R4_1 ?_; intros))
    (refine q_fin0 ?_)
    have : formN L = (0, 0) := by
      rcases dl_cases L (by omega) with ⟨g1, g2, g3⟩ | ⟨g1, _⟩
      · exact absurd g3 (hno _ g1 (by have := wd_pos (dl L).1; omega))
      · rw [formN, if_pos g1]
    rw [this]
    exact Gives.mk rfl
end Go.Proofs.Ytdmdabjaboigcaa
