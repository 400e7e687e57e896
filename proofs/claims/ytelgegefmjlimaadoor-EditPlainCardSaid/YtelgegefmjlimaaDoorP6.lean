/-
  Parts of a walk, joined: EQ3 EngZI EngZJ EQF EQB EQ2 EQ4. No condition.
-/
import Derived.Test.YtelgegefmjlimaaDoorP4
import Derived.Test.YtelgegefmjlimaaDoorP5
import Derived.Test.YtelgegefmjlimaaDoorP1
import Derived.Test.YtelgegefmjlimaaDoorProg
set_option linter.all false
/-
  The walk of the program reader's number. No condition.
-/
namespace Go.Eng
open Go
theorem byte_at {s : List UInt8} {a : Nat} (h : a < s.length) : UInt8.ofNat (gb s a) = s[a] := by unfold gb; rw [List.getD_eq_getElem?_getD, List.getElem?_eq_getElem h]; simp
theorem digits_run (s : List UInt8) : ∀ (f a : Nat), ∀ c ∈ sub s a (numE s f a), 48 ≤ c.toNat ∧ c.toNat ≤ 57
  | 0, a, c, h => by rw [numE, sub_nil] at h; cases h
  | f + 1, a, c, h => by
    rw [numE] at h
    split at h
    · next h1 =>
      have h2 := numE_end s f (a + 1) h1.1
      have e : sub s a (numE s f (a + 1)) = UInt8.ofNat (gb s a) :: sub s (a + 1) (numE s f (a + 1)) := by
        unfold sub
        rw [List.drop_eq_getElem_cons h1.1, show numE s f (a + 1) - a = (numE s f (a + 1) - (a + 1)) + 1 by omega, List.take_succ_cons]
        rw [← byte_at h1.1]
      rw [e] at h
      rcases List.mem_cons.1 h with rfl | h
      · have := gb_lt s a
        rw [UInt8.toNat_ofNat']; omega
      · exact digits_run s f (a + 1) c h
    · rw [sub_nil] at h; cases h
end Go.Eng
namespace Go.Proofs.YtelgegefmjlimaaDoor
open Go Go.Eng
set_option maxRecDepth 100000
set_option maxHeartbeats 4000000
set_option linter.all false
attribute [local irreducible] WL WC WQ QFun QLoop Does Q1 QRound QAssign Go.Addr.add
attribute [local irreducible] decV
theorem sq_EQ3_1 {G : Prop} (h : G := by (repeat (first | (refine sp ?_; (repeat intro zzc)) | (refine WL.neqNilI rfl (.inl ⟨rfl, rfl⟩) rfl rfl ?_) | (refine WL.neqNilI rfl (.inr ⟨_, _, rfl, rfl⟩) rfl rfl ?_))); exact WQ.q1 rfl) : G := h
theorem cm_EQ3_1 {G G' : Prop} (next : G') (h : Bx G' → G := by intro zzn; (try (refine wcal 0 ?_ (hwl := by intro zm zF zle; exact sq_EQ3_1))); (try (refine wcal 1 ?_ (hwl := by intro zm zF zle; exact sq_EQ3_1))); (try (refine wcal 2 ?_ (hwl := by intro zm zF zle; exact sq_EQ3_1))); (try (refine wcal 3 ?_ (hwl := by intro zm zF zle; exact sq_EQ3_1))); (try (refine wcal 4 ?_ (hwl := by intro zm zF zle; exact sq_EQ3_1))); (try (refine wcal 5 ?_ (hwl := by intro zm zF zle; exact sq_EQ3_1))); (try (refine wcal 6 ?_ (hwl := by intro zm zF zle; exact sq_EQ3_1))); (try (refine wcal 7 ?_ (hwl := by intro zm zF zle; exact sq_EQ3_1))); (try (refine wcal 8 ?_ (hwl := by intro zm zF zle; exact sq_EQ3_1))); (try (refine wcal 9 ?_ (hwl := by intro zm zF zle; exact sq_EQ3_1))); (try (refine wcal 10 ?_ (hwl := by intro zm zF zle; exact sq_EQ3_1))); (try (refine wcal 11 ?_ (hwl := by intro zm zF zle; exact sq_EQ3_1))); (try (refine wcal 12 ?_ (hwl := by intro zm zF zle; exact sq_EQ3_1))); (try (refine wcal 13 ?_ (hwl := by intro zm zF zle; exact sq_EQ3_1))); (try (refine wcal 14 ?_ (hwl := by intro zm zF zle; exact sq_EQ3_1))); (try (refine wcal 15 ?_ (hwl := by intro zm zF zle; exact sq_EQ3_1))); (try (refine wcal 16 ?_ (hwl := by intro zm zF zle; exact sq_EQ3_1))); (try (refine wcal 17 ?_ (hwl := by intro zm zF zle; exact sq_EQ3_1))); (try (refine wcal 18 ?_ (hwl := by intro zm zF zle; exact sq_EQ3_1))); (try (refine wcal 19 ?_ (hwl := by intro zm zF zle; exact sq_EQ3_1))); (try (refine wcal 20 ?_ (hwl := by intro zm zF zle; exact sq_EQ3_1))); (try (refine wcal 21 ?_ (hwl := by intro zm zF zle; exact sq_EQ3_1))); (try (refine wcal 22 ?_ (hwl := by intro zm zF zle; exact sq_EQ3_1))); (try (refine wcal 23 ?_ (hwl := by intro zm zF zle; exact sq_EQ3_1))); (try (refine wcal 24 ?_ (hwl := by intro zm zF zle; exact sq_EQ3_1))); (try (refine wcal 25 ?_ (hwl := by intro zm zF zle; exact sq_EQ3_1))); (try (refine wcal 26 ?_ (hwl := by intro zm zF zle; exact sq_EQ3_1))); (try (refine wcal 27 ?_ (hwl := by intro zm zF zle; exact sq_EQ3_1))); (try (refine wcal 28 ?_ (hwl := by intro zm zF zle; exact sq_EQ3_1))); (try (refine wcal 29 ?_ (hwl := by intro zm zF zle; exact sq_EQ3_1))); (try (refine wcal 30 ?_ (hwl := by intro zm zF zle; exact sq_EQ3_1))); (try (refine wcal 31 ?_ (hwl := by intro zm zF zle; exact sq_EQ3_1))); (try (refine wcal 32 ?_ (hwl := by intro zm zF zle; exact sq_EQ3_1))); (try (refine wcal 33 ?_ (hwl := by intro zm zF zle; exact sq_EQ3_1))); (try (refine wcal 34 ?_ (hwl := by intro zm zF zle; exact sq_EQ3_1))); (try (refine wcal 35 ?_ (hwl := by intro zm zF zle; exact sq_EQ3_1))); (try (refine wcal 36 ?_ (hwl := by intro zm zF zle; exact sq_EQ3_1))); (try (refine wcal 37 ?_ (hwl := by intro zm zF zle; exact sq_EQ3_1))); (try (refine wcal 38 ?_ (hwl := by intro zm zF zle; exact sq_EQ3_1))); (try (refine wcal 39 ?_ (hwl := by intro zm zF zle; exact sq_EQ3_1))); (try (refine wcal 40 ?_ (hwl := by intro zm zF zle; exact sq_EQ3_1))); (try (refine wcal 41 ?_ (hwl := by intro zm zF zle; exact sq_EQ3_1))); exact zzn.out) : G := h ⟨next⟩
theorem st_EQ3_1 {G G' : Prop} (next : G') (h : Bx G' → G := by intro zzn; (first | ((refine st ?_; (repeat intro zzc)); (try ((first | (refine WL.neqNilI rfl (.inl ⟨rfl, rfl⟩) rfl rfl ?_) | (refine WL.neqNilI rfl (.inr ⟨_, _, rfl, rfl⟩) rfl rfl ?_) | ((refine iDraw ?_; (first | refine WC.drawAll rfl (by decide +kernel) ?_ | refine WC.draw 1 rfl (by decide +kernel) ?_ | refine WC.draw 2 rfl (by decide +kernel) ?_ | refine WC.draw 3 rfl (by decide +kernel) ?_ | refine WC.draw 4 rfl (by decide +kernel) ?_ | refine WC.draw 5 rfl (by decide +kernel) ?_ | refine WC.draw 6 rfl (by decide +kernel) ?_ | refine WC.draw 7 rfl (by decide +kernel) ?_ | refine WC.draw 8 rfl (by decide +kernel) ?_ | refine WC.draw 9 rfl (by decide +kernel) ?_ | refine WC.draw 10 rfl (by decide +kernel) ?_ | refine WC.draw 11 rfl (by decide +kernel) ?_ | refine WC.draw 12 rfl (by decide +kernel) ?_ | refine WC.draw 13 rfl (by decide +kernel) ?_ | refine WC.draw 14 rfl (by decide +kernel) ?_ | refine WC.draw 15 rfl (by decide +kernel) ?_ | refine WC.draw 16 rfl (by decide +kernel) ?_ | refine WC.draw 17 rfl (by decide +kernel) ?_ | refine WC.draw 18 rfl (by decide +kernel) ?_ | refine WC.draw 19 rfl (by decide +kernel) ?_ | refine WC.draw 20 rfl (by decide +kernel) ?_ | refine WC.draw 21 rfl (by decide +kernel) ?_ | refine WC.draw 22 rfl (by decide +kernel) ?_ | refine WC.draw 23 rfl (by decide +kernel) ?_ | refine WC.draw 24 rfl (by decide +kernel) ?_)); (repeat (refine WD.cons rfl (fun c h => by cases h) sq_EQ3_1 ?_)); refine WD.nil ?_)); (try (refine st ?_; (repeat intro zzc)))))) | ((first | (refine WL.neqNilI rfl (.inl ⟨rfl, rfl⟩) rfl rfl ?_) | (refine WL.neqNilI rfl (.inr ⟨_, _, rfl, rfl⟩) rfl rfl ?_) | ((refine iDraw ?_; (first | refine WC.drawAll rfl (by decide +kernel) ?_ | refine WC.draw 1 rfl (by decide +kernel) ?_ | refine WC.draw 2 rfl (by decide +kernel) ?_ | refine WC.draw 3 rfl (by decide +kernel) ?_ | refine WC.draw 4 rfl (by decide +kernel) ?_ | refine WC.draw 5 rfl (by decide +kernel) ?_ | refine WC.draw 6 rfl (by decide +kernel) ?_ | refine WC.draw 7 rfl (by decide +kernel) ?_ | refine WC.draw 8 rfl (by decide +kernel) ?_ | refine WC.draw 9 rfl (by decide +kernel) ?_ | refine WC.draw 10 rfl (by decide +kernel) ?_ | refine WC.draw 11 rfl (by decide +kernel) ?_ | refine WC.draw 12 rfl (by decide +kernel) ?_ | refine WC.draw 13 rfl (by decide +kernel) ?_ | refine WC.draw 14 rfl (by decide +kernel) ?_ | refine WC.draw 15 rfl (by decide +kernel) ?_ | refine WC.draw 16 rfl (by decide +kernel) ?_ | refine WC.draw 17 rfl (by decide +kernel) ?_ | refine WC.draw 18 rfl (by decide +kernel) ?_ | refine WC.draw 19 rfl (by decide +kernel) ?_ | refine WC.draw 20 rfl (by decide +kernel) ?_ | refine WC.draw 21 rfl (by decide +kernel) ?_ | refine WC.draw 22 rfl (by decide +kernel) ?_ | refine WC.draw 23 rfl (by decide +kernel) ?_ | refine WC.draw 24 rfl (by decide +kernel) ?_)); (repeat (refine WD.cons rfl (fun c h => by cases h) sq_EQ3_1 ?_)); refine WD.nil ?_)); (try (refine st ?_; (repeat intro zzc))))); (repeat ((first | (refine WL.neqNilI rfl (.inl ⟨rfl, rfl⟩) rfl rfl ?_) | (refine WL.neqNilI rfl (.inr ⟨_, _, rfl, rfl⟩) rfl rfl ?_) | ((refine iDraw ?_; (first | refine WC.drawAll rfl (by decide +kernel) ?_ | refine WC.draw 1 rfl (by decide +kernel) ?_ | refine WC.draw 2 rfl (by decide +kernel) ?_ | refine WC.draw 3 rfl (by decide +kernel) ?_ | refine WC.draw 4 rfl (by decide +kernel) ?_ | refine WC.draw 5 rfl (by decide +kernel) ?_ | refine WC.draw 6 rfl (by decide +kernel) ?_ | refine WC.draw 7 rfl (by decide +kernel) ?_ | refine WC.draw 8 rfl (by decide +kernel) ?_ | refine WC.draw 9 rfl (by decide +kernel) ?_ | refine WC.draw 10 rfl (by decide +kernel) ?_ | refine WC.draw 11 rfl (by decide +kernel) ?_ | refine WC.draw 12 rfl (by decide +kernel) ?_ | refine WC.draw 13 rfl (by decide +kernel) ?_ | refine WC.draw 14 rfl (by decide +kernel) ?_ | refine WC.draw 15 rfl (by decide +kernel) ?_ | refine WC.draw 16 rfl (by decide +kernel) ?_ | refine WC.draw 17 rfl (by decide +kernel) ?_ | refine WC.draw 18 rfl (by decide +kernel) ?_ | refine WC.draw 19 rfl (by decide +kernel) ?_ | refine WC.draw 20 rfl (by decide +kernel) ?_ | refine WC.draw 21 rfl (by decide +kernel) ?_ | refine WC.draw 22 rfl (by decide +kernel) ?_ | refine WC.draw 23 rfl (by decide +kernel) ?_ | refine WC.draw 24 rfl (by decide +kernel) ?_)); (repeat (refine WD.cons rfl (fun c h => by cases h) sq_EQ3_1 ?_)); refine WD.nil ?_)); (try (refine st ?_; (repeat intro zzc))))); (repeat revert zzc); exact zzn.out) : G := h ⟨next⟩
theorem eNumber_any (b : Nat) (s : List UInt8) (a : Nat) (wr : Int) (fr to : Nat) (hs : s.length ≤ 1000000000) (ha : a ≤ s.length) (hfr : fr ≤ 65536) (hto : to ≤ 65536) {w0 : World} {m : Mem} {H : SHeap} (hg : GTabs Tryd.prog m) :
    Does Tryd.prog 54 #[.pointer (some ⟨b, 0, none⟩)] w0 m (.blk b (.cells [str s, .int .i64 (a : Int), .int .i64 wr, .int .i64 (fr : Int), .int .i64 (to : Int)].toArray 61 (0, 0)) :: H) (fun v m' H' => m' = m ∧ ((∃ e n, numF s a fr to = .yes e n ∧ v = .tuple #[.int .i64 (n : Int), .bool true] ∧ H' = .blk b (.cells [str s, .int .i64 (e : Int), .int .i64 wr, .int .i64 (fr : Int), .int .i64 (to : Int)].toArray 61 (0, 0)) :: H) ∨
      (∃ (w e : Nat), numF s a fr to = .no w ∧ v = .tuple #[.int .i64 0, .bool false] ∧ H' = .blk b (.cells [str s, .int .i64 (e : Int), .int .i64 (w : Int), .int .i64 (fr : Int), .int .i64 (to : Int)].toArray 61 (0, 0)) :: H))) := by
  refine Does.of_body (args := [.pointer (some ⟨b, 0, none⟩)]) Tryd.func54 rfl Tryd.ntmps54 rfl ?_
  by_cases h1 : a < s.length ∧ 49 ≤ gb s a ∧ gb s a ≤ 57
  · generalize hE : numE s (s.length + 1) a = E
    have hEb := numE_end s (s.length + 1) a ha
    rw [hE] at hEb
    have hdg := digits_run s (s.length + 1) a
    rw [hE] at hdg
    have hEa : a < E := by
      rw [numE, if_pos ⟨h1.1, by omega, h1.2.2⟩] at hE
      have := numE_end s s.length (a + 1) h1.1
      omega
    have hn : numF s a fr to = if 65536 - fr < decV (sub s a E) ∨ 65536 - to < decV (sub s a E) then .no a else .yes E (decV (sub s a E)) := by unfold numF; rw [if_pos h1, hE]
    (try (refine st_EQ3_1 ?_; intros))
    refine WC.loopH [(4, .int .i64 (a : Int)), (0, .pointer (some ⟨b, 0, none⟩))] ?_ ?_ (fun j r ds m' H' => ∃ (f : Nat) (e : Nat), j = 2 * f ∧ r = [(4, .int .i64 (a : Int)), (0, .pointer (some ⟨b, 0, none⟩))] ∧ ds = [] ∧ m = m' ∧ H' = .blk b (.cells [str s, .int .i64 (e : Int), .int .i64 wr, .int .i64 (fr : Int), .int .i64 (to : Int)].toArray 61 (0, 0)) :: H ∧ (s.length < e + f) ∧ (a ≤ e ∧ e ≤ s.length) ∧ (numE s f e = E)) (2 * (s.length + 1)) ⟨s.length + 1, a, rfl, rfl, rfl, rfl, rfl, by omega, ⟨Nat.le_refl _, ha⟩, hE⟩ ?_
    · (repeat (first | exact Env.Sub.nil | refine Env.Sub.cons rfl ?_))
    · exact zpk
    rintro j r ds m' H' ⟨f, e, rfl, rfl, rfl, rfl, rfl, hf, hea, hR⟩
    obtain ⟨f, rfl⟩ : ∃ g, f = g + 1 := ⟨f - 1, by omega⟩
    have hge := gb_lt s e
    by_cases h4 : e < s.length ∧ 48 ≤ gb s e ∧ gb s e ≤ 57
    · rw [numE, if_pos h4] at hR
      have ee : (e : Int) + 1 = ((e + 1 : Nat) : Int) := by omega
      obtain ⟨h5, h6, h7⟩ := h4
      by_cases h8 : a < e
      · (try (refine st_EQ3_1 ?_; intros))
        rw [ee]
        refine WQ.next (2 * (f)) ⟨f, e + 1, rfl, rfl, rfl, rfl, rfl, ?_, ?_, ?_⟩ (by omega) zsb zpk
        · omega
        · omega
        · exact hR
      · obtain rfl : a = e := by omega
        have h9 : ¬ (gb s a : Int) = 48 := by omega
        (try (refine st_EQ3_1 ?_; intros))
        rw [ee]
        refine WQ.next (2 * (f)) ⟨f, a + 1, rfl, rfl, rfl, rfl, rfl, ?_, ?_, ?_⟩ (by omega) zsb zpk
        · omega
        · omega
        · exact hR
    · rw [numE, if_neg h4] at hR
      subst hR
      have key : ¬ e < s.length ∨ (e < s.length ∧ ¬ 48 ≤ gb s e) ∨ (e < s.length ∧ 48 ≤ gb s e ∧ ¬ gb s e ≤ 57) := by omega
      have hea2 : ¬ (e : Int) = (a : Int) := by omega
      have hsub : sub s a e ≠ [] := by intro h; have := congrArg List.length h; rw [sub_length hea.2, List.length_nil] at this; omega
      have hsl : (sub s a e).length ≤ 281474976710656 := by rw [sub_length hea.2]; omega
      have hst : (s.take e).drop a = sub s a e := by unfold sub; rw [List.drop_take]
      rcases key with k1 | ⟨k1, k2⟩ | ⟨k1, k2, k3⟩
      all_goals
        (try (refine st_EQ3_1 ?_; intros))
        refine WC.drawE 16 ([.blk b (.cells [str s, .int .i64 (e : Int), .int .i64 wr, .int .i64 (fr : Int), .int .i64 (to : Int)].toArray 61 (0, 0))]) (H) rfl (by decide +kernel) zpk ?_
        (refine cm_EQ3_1 ?_)
        refine WE.act1 10 (by decide +kernel) rfl rfl (fun c h => by cases h) ?_
        (try (refine st_EQ3_1 ?_; intros))
        rw [hst]
        refine w_callF Tryd.func74 ?_ (hs := atoi_any hsub hdg hsl hg)
        rintro v m H1 ⟨rfl, rfl, (⟨g1, rfl⟩ | ⟨g1, z, T, p, rfl⟩)⟩
        · (try (refine st_EQ3_1 ?_; intros))
          refine WQ.acted (B := []) (U := H) rfl (Mem.le.refl _) zpk ?_
          (refine cm_EQ3_1 ?_)
          refine WE.done (by decide +kernel) ?_
          by_cases g2 : 65536 - fr < decV (sub s a e)
          · rw [if_pos (.inl g2)] at hn
            (try (refine st_EQ3_1 ?_; intros))
            refine w_callF Tryd.func56 ?_ (hs := eFail_any b s e wr fr to (a : Int) _ _ _)
            rintro v m H1 ⟨rfl, rfl, rfl⟩
            (try (refine st_EQ3_1 ?_; intros))
            exact q_fin0 (H0 := .blk b (.cells [str s, .int .i64 (e : Int), .int .i64 (a : Int), .int .i64 (fr : Int), .int .i64 (to : Int)].toArray 61 (0, 0)) :: H) ⟨rfl, .inr ⟨a, e, hn, rfl, rfl⟩⟩ (hd := zpk)
          · by_cases g3 : 65536 - to < decV (sub s a e)
            · rw [if_pos (.inr g3)] at hn
              (try (refine st_EQ3_1 ?_; intros))
              refine w_callF Tryd.func56 ?_ (hs := eFail_any b s e wr fr to (a : Int) _ _ _)
              rintro v m H1 ⟨rfl, rfl, rfl⟩
              (try (refine st_EQ3_1 ?_; intros))
              exact q_fin0 (H0 := .blk b (.cells [str s, .int .i64 (e : Int), .int .i64 (a : Int), .int .i64 (fr : Int), .int .i64 (to : Int)].toArray 61 (0, 0)) :: H) ⟨rfl, .inr ⟨a, e, hn, rfl, rfl⟩⟩ (hd := zpk)
            · rw [if_neg (fun h => h.elim g2 g3)] at hn
              (try (refine st_EQ3_1 ?_; intros))
              exact q_fin0 (H0 := .blk b (.cells [str s, .int .i64 (e : Int), .int .i64 wr, .int .i64 (fr : Int), .int .i64 (to : Int)].toArray 61 (0, 0)) :: H) ⟨rfl, .inl ⟨e, decV (sub s a e), hn, rfl, rfl⟩⟩ (hd := zpk)
        · rw [if_pos (.inl (by omega))] at hn
          (try (refine st_EQ3_1 ?_; intros))
          refine WQ.acted (B := []) (U := H) rfl (Mem.le.refl _) zpk ?_
          (refine cm_EQ3_1 ?_)
          refine WE.done (by decide +kernel) ?_
          (try (refine st_EQ3_1 ?_; intros))
          refine w_callF Tryd.func56 ?_ (hs := eFail_any b s e wr fr to (a : Int) _ _ _)
          rintro v m H1 ⟨rfl, rfl, rfl⟩
          (try (refine st_EQ3_1 ?_; intros))
          exact q_fin0 (H0 := .blk b (.cells [str s, .int .i64 (e : Int), .int .i64 (a : Int), .int .i64 (fr : Int), .int .i64 (to : Int)].toArray 61 (0, 0)) :: H) ⟨rfl, .inr ⟨a, e, hn, rfl, rfl⟩⟩ (hd := zpk)
  · have hn : numF s a fr to = .no a := by unfold numF; rw [if_neg h1]
    have hga := gb_lt s a
    (try (refine st_EQ3_1 ?_; intros))
    refine WC.loopH [(4, .int .i64 (a : Int)), (0, .pointer (some ⟨b, 0, none⟩))] ?_ ?_ (fun j r ds m' H' => ∃ (z : Nat), j = 0 ∧ r = [(4, .int .i64 (a : Int)), (0, .pointer (some ⟨b, 0, none⟩))] ∧ ds = [] ∧ m = m' ∧ H' = .blk b (.cells [str s, .int .i64 (a : Int), .int .i64 wr, .int .i64 (fr : Int), .int .i64 (to : Int)].toArray 61 (0, 0)) :: H) (0) ⟨0, rfl, rfl, rfl, rfl, rfl⟩ ?_
    · (repeat (first | exact Env.Sub.nil | refine Env.Sub.cons rfl ?_))
    · exact zpk
    rintro j r ds m' H' ⟨z, rfl, rfl, rfl, rfl, rfl⟩
    have key : ¬ a < s.length ∨ (a < s.length ∧ ¬ 48 ≤ gb s a) ∨ (a < s.length ∧ 48 ≤ gb s a ∧ ¬ gb s a ≤ 57) ∨ (a < s.length ∧ gb s a = 48) := by omega
    rcases key with k1 | ⟨k1, k2⟩ | ⟨k1, k2, k3⟩ | ⟨k1, k2⟩
    all_goals
      (try (refine st_EQ3_1 ?_; intros))
      refine w_callF Tryd.func56 ?_ (hs := eFail_any b s a wr fr to (a : Int) _ _ _)
      rintro v m H1 ⟨rfl, rfl, rfl⟩
      (try (refine st_EQ3_1 ?_; intros))
      exact q_fin0 (H0 := .blk b (.cells [str s, .int .i64 (a : Int), .int .i64 (a : Int), .int .i64 (fr : Int), .int .i64 (to : Int)].toArray 61 (0, 0)) :: H) ⟨rfl, .inr ⟨a, a, hn, rfl, rfl⟩⟩ (hd := zpk)
end Go.Proofs.YtelgegefmjlimaaDoor

/-
  A walk's engine: runes as bytes: conversions to 32 bits, bits laid together. No condition.
-/
set_option linter.all false
namespace Go.Eng
open Go Go.RowKit
theorem low6 (x : Nat) : x &&& 63 = x % 64 := Nat.and_two_pow_sub_one_eq_mod x 6
theorem or128 {y : Nat} (h : y < 64) : 128 ||| y = 128 + y := by
  have : ∀ y : Nat, y < 64 → 128 ||| y = 128 + y := by decide
  exact this y h
theorem or192 {y : Nat} (h : y < 32) : 192 ||| y = 192 + y := by
  have : ∀ y : Nat, y < 32 → 192 ||| y = 192 + y := by decide
  exact this y h
theorem or224 {y : Nat} (h : y < 16) : 224 ||| y = 224 + y := by
  have : ∀ y : Nat, y < 16 → 224 ||| y = 224 + y := by decide
  exact this y h
theorem or240 {y : Nat} (h : y < 8) : 240 ||| y = 240 + y := by
  have : ∀ y : Nat, y < 8 → 240 ||| y = 240 + y := by decide
  exact this y h
section
variable {P : Program} {ro : Option Nat} {n : Nat} {w0 : World} {Q : Exit → Act → World → Prop} {r : Env} {ds : List Nat} {m : Mem} {H : SHeap}
  {ops : Array Oper} {l : List Oper} {d : Nat} {ty : TypeId} {pos : String} {after : Array Edge} {x : Operand} {k : IntKind} {a : Int}
theorem WL.convu32 {src dst : TypeId} (hx : r.ev x = some (.int k a)) (hs : (P.underlying src).isSome = true) (hu : P.underlying dst = some (.int .u32)) (hd : Nat.blt d n = true)
    (hb : 0 ≤ a ∧ a ≤ 4294967295) (h : WL P ro n w0 ops Q l ((d, .int .u32 a) :: r) ds m H) : WL P ro n w0 ops Q (⟨some d, .convert src dst x, ty, pos, after, none⟩ :: l) r ds m H :=
  .conv hx hs hu hd (by rw [wrapu32_id hb]; exact h)
theorem WL.orAnd {t t' : TypeId} {y : Operand} {q : Int} (hx : r.ev x = some (.int .u8 128)) (hy : r.ev y = some (.int .u8 ((q.toNat &&& Int.toNat 63 : Nat) : Int))) (hd : Nat.blt d n = true) (hq : 0 ≤ q)
    (h : WL P ro n w0 ops Q l ((d, .int .u8 (128 + q % 64)) :: r) ds m H) : WL P ro n w0 ops Q (⟨some d, .binOp .or t x y t', ty, pos, after, none⟩ :: l) r ds m H := by
  have e : q.toNat &&& Int.toNat 63 = q.toNat % 64 := low6 _
  have hlt : q.toNat % 64 < 64 := Nat.mod_lt _ (by decide)
  rw [e] at hy
  refine WL.or8 hx hy hd (by decide) (by omega) ?_
  have e2 : (Int.toNat 128 ||| Int.toNat ((q.toNat % 64 : Nat) : Int)) = 128 + q.toNat % 64 := by
    rw [Int.toNat_natCast]; exact or128 hlt
  rw [e2, show ((128 + q.toNat % 64 : Nat) : Int) = 128 + q % 64 by omega]
  exact h
end
theorem u8n {x : Nat} (h : x < 256) : (UInt8.ofNat x).toNat = x := by rw [UInt8.toNat_ofNat']; exact Nat.mod_eq_of_lt h
theorem rune2 {c : Nat} (h0 : 128 ≤ c) (h1 : c ≤ 2047) : [[Value.int .u8 ((Int.toNat 192 ||| ((c : Int) / 2 ^ 6 % 256).toNat : Nat) : Int)], [.int .u8 (128 + (c : Int) % 256 % 64)]] = bCs (fmb c) := by
  have e1 : ((c : Int) / 2 ^ 6 % 256).toNat = c / 64 := by omega
  have e2 : 192 ||| (c / 64) = 192 + c / 64 := or192 (by omega)
  have e3 : fmb c = [UInt8.ofNat (192 + c / 64), UInt8.ofNat (128 + c % 64)] := by unfold fmb fm; rw [if_neg (by omega), if_pos (by omega)]; rfl
  rw [e1, e3]
  show [[Value.int .u8 ((192 ||| (c / 64) : Nat) : Int)], _] = _
  rw [e2]
  simp only [bCs, List.map_cons, List.map_nil]
  rw [show (128 : Int) + (c : Int) % 256 % 64 = ((128 + c % 64 : Nat) : Int) by omega, u8n (x := 192 + c / 64) (by omega), u8n (x := 128 + c % 64) (by omega)]
theorem rune3 {c : Nat} (h0 : 2047 < c) (h1 : c ≤ 65535) : [[Value.int .u8 ((Int.toNat 224 ||| ((c : Int) / 2 ^ 12 % 256).toNat : Nat) : Int)], [.int .u8 (128 + (c : Int) / 2 ^ 6 % 256 % 64)], [.int .u8 (128 + (c : Int) % 256 % 64)]] = bCs (fmb c) := by
  have e1 : ((c : Int) / 2 ^ 12 % 256).toNat = c / 4096 := by omega
  have e2 : 224 ||| (c / 4096) = 224 + c / 4096 := or224 (by omega)
  have e3 : fmb c = [UInt8.ofNat (224 + c / 4096), UInt8.ofNat (128 + c / 64 % 64), UInt8.ofNat (128 + c % 64)] := by unfold fmb fm; rw [if_neg (by omega), if_neg (by omega), if_pos (by omega)]; rfl
  rw [e1, e3]
  show [[Value.int .u8 ((224 ||| (c / 4096) : Nat) : Int)], _, _] = _
  rw [e2]
  simp only [bCs, List.map_cons, List.map_nil]
  rw [show (128 : Int) + (c : Int) % 256 % 64 = ((128 + c % 64 : Nat) : Int) by omega, show (128 : Int) + (c : Int) / 2 ^ 6 % 256 % 64 = ((128 + c / 64 % 64 : Nat) : Int) by omega, u8n (x := 224 + c / 4096) (by omega), u8n (x := 128 + c / 64 % 64) (by omega), u8n (x := 128 + c % 64) (by omega)]
theorem rune4 {c : Nat} (h0 : 65535 < c) (h1 : c ≤ 1114111) : [[Value.int .u8 ((Int.toNat 240 ||| ((c : Int) / 2 ^ 18 % 256).toNat : Nat) : Int)], [.int .u8 (128 + (c : Int) / 2 ^ 12 % 256 % 64)], [.int .u8 (128 + (c : Int) / 2 ^ 6 % 256 % 64)], [.int .u8 (128 + (c : Int) % 256 % 64)]] = bCs (fmb c) := by
  have e1 : ((c : Int) / 2 ^ 18 % 256).toNat = c / 262144 := by omega
  have e2 : 240 ||| (c / 262144) = 240 + c / 262144 := or240 (by omega)
  have e3 : fmb c = [UInt8.ofNat (240 + c / 262144), UInt8.ofNat (128 + c / 4096 % 64), UInt8.ofNat (128 + c / 64 % 64), UInt8.ofNat (128 + c % 64)] := by unfold fmb fm; rw [if_neg (by omega), if_neg (by omega), if_neg (by omega)]; rfl
  rw [e1, e3]
  show [[Value.int .u8 ((240 ||| (c / 262144) : Nat) : Int)], _, _, _] = _
  rw [e2]
  simp only [bCs, List.map_cons, List.map_nil]
  rw [show (128 : Int) + (c : Int) % 256 % 64 = ((128 + c % 64 : Nat) : Int) by omega, show (128 : Int) + (c : Int) / 2 ^ 6 % 256 % 64 = ((128 + c / 64 % 64 : Nat) : Int) by omega, show (128 : Int) + (c : Int) / 2 ^ 12 % 256 % 64 = ((128 + c / 4096 % 64 : Nat) : Int) by omega, u8n (x := 240 + c / 262144) (by omega), u8n (x := 128 + c / 4096 % 64) (by omega), u8n (x := 128 + c / 64 % 64) (by omega), u8n (x := 128 + c % 64) (by omega)]
theorem rune1 {c : Nat} (h1 : c ≤ 127) : [[Value.int .u8 (c : Int)]] = bCs (fmb c) := by
  have e3 : fmb c = [UInt8.ofNat c] := by unfold fmb fm; rw [if_pos (by omega)]; rfl
  rw [e3]
  simp only [bCs, List.map_cons, List.map_nil]
  rw [u8n (x := c) (by omega)]
end Go.Eng

/-
  A walk's engine: numbers of 64 bits worked out, stores into an array at a place, the rest of an array as a slice, and as a text. No condition.
-/
set_option linter.all false
namespace Go.Eng
open Go Go.RowKit
theorem NF.self : ∀ (L : List Value), NF L L
  | [] => .nil rfl
  | v :: L => .cons rfl (NF.self L)
section
variable {P : Program} {ro : Option Nat} {n : Nat} {w0 : World} {Q : Exit → Act → World → Prop} {r : Env} {ds : List Nat} {m : Mem} {H : SHeap}
  {ops : Array Oper} {l : List Oper} {d : Nat} {ty : TypeId} {pos : String} {after : Array Edge} {t t' : TypeId} {x y : Operand} {a b : Int}
/-- two numbers of 64 bits, and-ed -/
theorem ofInt64 {a : Int} (h : 0 ≤ a ∧ a ≤ 18446744073709551615) : (BitVec.ofInt 64 a).toNat = a.toNat := by
  rw [BitVec.toNat_ofInt]
  have : a % ((2 ^ 64 : Nat) : Int) = a := Int.emod_eq_of_lt h.1 (by have : ((2 ^ 64 : Nat) : Int) = 18446744073709551616 := rfl; omega)
  rw [this]
theorem WL.and64u (hx : r.ev x = some (.int .u64 a)) (hy : r.ev y = some (.int .u64 b)) (hd : Nat.blt d n = true) (ha : 0 ≤ a ∧ a ≤ 18446744073709551615) (hb : 0 ≤ b ∧ b ≤ 18446744073709551615)
    (h : WL P ro n w0 ops Q l ((d, .int .u64 ((a.toNat &&& b.toNat : Nat) : Int)) :: r) ds m H) : WL P ro n w0 ops Q (⟨some d, .binOp .and t x y t', ty, pos, after, none⟩ :: l) r ds m H := by
  refine .int2 (fun _ _ _ => guard_int _ _ _ _ _ _ _ _) (fun w => ?_) hx hy hd h
  have h1 := ofInt64 ha
  have h2 := ofInt64 hb
  have h3 : a.toNat &&& b.toNat ≤ a.toNat := Nat.and_le_left
  have h4 : IntKind.u64.wrap ((a.toNat &&& b.toNat : Nat) : Int) = ((a.toNat &&& b.toNat : Nat) : Int) := wrapu64_id ⟨by omega, by omega⟩
  show (pure (Value.int IntKind.u64 (IntKind.u64.wrap (((BitVec.ofInt 64 a) &&& (BitVec.ofInt 64 b)).toNat : Int))) : Sem Value).run P w = _
  rw [BitVec.toNat_and, h1, h2, h4]; rfl
theorem WL.and64i (hx : r.ev x = some (.int .i64 a)) (hy : r.ev y = some (.int .i64 b)) (hd : Nat.blt d n = true) (ha : 0 ≤ a ∧ a ≤ 9223372036854775807) (hb : 0 ≤ b ∧ b ≤ 9223372036854775807)
    (h : WL P ro n w0 ops Q l ((d, .int .i64 ((a.toNat &&& b.toNat : Nat) : Int)) :: r) ds m H) : WL P ro n w0 ops Q (⟨some d, .binOp .and t x y t', ty, pos, after, none⟩ :: l) r ds m H := by
  refine .int2 (fun _ _ _ => guard_int _ _ _ _ _ _ _ _) (fun w => ?_) hx hy hd h
  have h1 := ofInt64 (a := a) ⟨ha.1, by omega⟩
  have h2 := ofInt64 (a := b) ⟨hb.1, by omega⟩
  have h3 : a.toNat &&& b.toNat ≤ a.toNat := Nat.and_le_left
  have h4 : IntKind.i64.wrap ((a.toNat &&& b.toNat : Nat) : Int) = ((a.toNat &&& b.toNat : Nat) : Int) := wrap64_id ⟨by omega, by omega⟩
  show (pure (Value.int IntKind.i64 (IntKind.i64.wrap (((BitVec.ofInt 64 a) &&& (BitVec.ofInt 64 b)).toNat : Int))) : Sem Value).run P w = _
  rw [BitVec.toNat_and, h1, h2, h4]; rfl
theorem WL.sub64u (hx : r.ev x = some (.int .u64 a)) (hy : r.ev y = some (.int .u64 b)) (hd : Nat.blt d n = true) (hb : 0 ≤ a - b ∧ a - b ≤ 18446744073709551615)
    (h : WL P ro n w0 ops Q l ((d, .int .u64 (a - b)) :: r) ds m H) : WL P ro n w0 ops Q (⟨some d, .binOp .sub t x y t', ty, pos, after, none⟩ :: l) r ds m H :=
  .sub hx hy hd (by rw [wrapu64_id hb]; exact h)
/-- one cell of an array written -/
theorem WL.store1 {b o : Nat} {T : TypeId} {L : List Value} {v : Value} {H' : SHeap} (hx : r.ev x = some (.pointer (some ⟨b, o, none⟩))) (hy : r.ev y = some v)
    (hv : v.cells = [v].toArray) (hz : sizeB P t = some 1) (hr : Repl (.blk b (.cells L.toArray T (0, 0))) (.blk b (.cells (L.set o v).toArray T (0, 0))) H H')
    (hl : o < L.length) (ha : okCell v = true) (h : WL P ro n w0 ops Q l r ds m H') :
    WL P ro n w0 ops Q (⟨none, .store t x y, ty, pos, after, none⟩ :: l) r ds m H :=
  .store (L' := L.set o v) hx hy hv hz rfl hr (by rw [show laid L o [v] = L.set o v from rfl]; exact NF.self _) (by simp; omega) (.inl rfl) (by simp [ha]) h
theorem WL.slArrL {e : TypeId} {b k q : Nat} {kl : IntKind} {lo : Operand} {j : Int} (hx : r.ev x = some (.pointer (some ⟨b, 0, none⟩))) (hh : r.ev lo = some (.int kl j)) (hj : j = (q : Int)) (hu : P.underlying t = some (.array k e)) (hsz : sizeB P e = some 1)
    (hd : Nat.blt d n = true) (hb : q < k) (h : WL P ro n w0 ops Q l ((d, .slice (some ⟨b, q, none⟩) (k - q) (k - q)) :: r) ds m H) :
    WL P ro n w0 ops Q (⟨some d, .slice t x (some lo) none none, ty, pos, after, none⟩ :: l) r ds m H :=
  .val hd (fun _ h => by cases h) (fun tmps w ho _ => by
    subst hj
    have e2 := bound_ok (P := P) (i := (q : Int)) (k := kl) (y := k) (by omega) (by omega) .sliceB w
    have e3 : ¬ k = q := by omega
    simp only [execOp, Option.map_some, Option.map_none, Sem.run_bind, ho.ev hx, ho.ev hh, Instr.sliceAt, run_underlying hu, Instr.sureAddr, Instr.sliceBounds, Sem.run_pure, Result.andThen_ok]
    simp [e2, e3, Result.andThen, run_size hsz, add_none]) h
theorem WL.bytesBlkO {src dst e : TypeId} {b o k cap : Nat} {T : TypeId} {fz : Nat × Nat} {L : List Value} {s : List UInt8} (hx : r.ev x = some (.slice (some ⟨b, o, none⟩) k cap)) (hm : Item.blk b (.cells L.toArray T fz) ∈ H)
    (hL : (L.drop o).take k = s.map fun b => Value.int .u8 (b.toNat : Int)) (hk : k = s.length) (hs1 : P.underlying src = some (.slice e)) (hs2 : P.underlying dst = some .string) (hs3 : P.underlying e = some (.int .u8)) (hsz : sizeB P e = some 1) (hd : Nat.blt d n = true)
    (h : WL P ro n w0 ops Q l ((d, str s) :: r) ds m H) : WL P ro n w0 ops Q (⟨some d, .convert src dst x, ty, pos, after, none⟩ :: l) r ds m H := by
  subst hk
  refine .bytesStr hx hs1 hs2 hs3 hsz (.inr ⟨_, _, rfl, fun w hs j v hj => ?_⟩) hd h
  rw [add_none]
  rw [← hL, List.getElem?_take] at hj
  split at hj
  · rw [List.getElem?_drop] at hj
    exact Cell.blk hm (by simpa using hj) w hs
  · cases hj
end
theorem WQ.rowCap {n : Nat} {w0 : World} {Q : Exit → Act → World → Prop} {e : Exit} {r : Env} {ds : List Nat} {m : Mem} {H : SHeap} {a : Option Addr} {cap : Nat} {T : TypeId} {sz : Nat} {es : List (List Value)} (hm : Item.row a cap T sz es ∈ H) (h : es.length ≤ cap → WQ n w0 Q e r ds m H) : WQ n w0 Q e r ds m H :=
  fun tmps w ho hs => h (row_cap hs hm) tmps w ho hs
theorem and15 (x : Nat) : x &&& 15 = x % 16 := Nat.and_two_pow_sub_one_eq_mod x 4
end Go.Eng

/-
  The walk of strconv.FormatInt to the base 16. No condition.
-/
namespace Go.Proofs.YtelgegefmjlimaaDoor
open Go Go.Eng
set_option maxRecDepth 100000
set_option maxHeartbeats 4000000
set_option linter.all false
attribute [local irreducible] WL WC WQ QFun QLoop Does Q1 QRound QAssign Go.Addr.add
theorem pow2_any (w0 : World) (m : Mem) (H : SHeap) : Does Tryd.prog 118 #[.int .i64 16] w0 m H (Gives (.bool true) m H) := by
  refine Does.of_body (args := [.int .i64 16]) Tryd.func118 rfl Tryd.ntmps118 rfl ?_
  (try (refine st ?_; intros))
  refine WL.and64i rfl rfl rfl (by omega) (by omega) ?_
  (try (refine st ?_; intros))
  exact q_fin0 (H0 := H) (Gives.mk (show Value.bool (dcd ((((16 : Int).toNat &&& (16 - 1 : Int).toNat : Nat) : Int) = 0)) = .bool true by rw [dcd_true (by decide)])) (hd := zpk)
theorem tz_any {w0 : World} {m : Mem} {H : SHeap} (hg : GTabs Tryd.prog m) : Does Tryd.prog 124 #[.int .u64 16] w0 m H (Gives (.int .i64 4) m H) := by
  refine Does.of_body (args := [.int .u64 16]) Tryd.func124 rfl Tryd.ntmps124 rfl ?_
  have h0 : ¬ (16 : Int) = 0 := by decide
  obtain ⟨g, T, fz, h1, h2⟩ := hg.brj
  have hg5 : g = 5 := Option.some.inj (h1.symm.trans (by kernel_rfl))
  subst hg5
  (try (refine st ?_; intros))
  refine WL.neg rfl rfl ?_
  rw [show IntKind.u64.wrap (-16) = 18446744073709551600 by decide]
  refine WL.and64u rfl rfl rfl (by omega) (by omega) ?_
  rw [show (((16 : Int).toNat &&& (18446744073709551600 : Int).toNat : Nat) : Int) = 16 by decide]
  refine WL.mul rfl rfl rfl ?_
  rw [show IntKind.u64.wrap (16 * 285870213051353865) = 4573923408821661840 by decide]
  (try (refine st ?_; intros))
  refine WL.indexAddrA (i := 15) rfl rfl (by decide) rfl rfl (by omega) rfl rfl ?_
  (try (refine st ?_; intros))
  exact q_fin0 (H0 := H) (Gives.mk rfl) (hd := zpk)
theorem sq_EQF_1 {G : Prop} (h : G := by (repeat (first | (refine sp ?_; (repeat intro zzc)) | (refine iF 124 rfl ?_; refine w_callG Tryd.func124 ?_ (hs := tz_any (by assumption))))); exact WQ.q1 rfl) : G := h
theorem st_EQF_1 {G G' : Prop} (next : G') (h : Bx G' → G := by intro zzn; (first | ((refine st ?_; (repeat intro zzc)); (try ((first | (refine iF 124 rfl ?_; refine w_callG Tryd.func124 ?_ (hs := tz_any (by assumption))) | ((refine iDraw ?_; (first | refine WC.drawAll rfl (by decide +kernel) ?_ | refine WC.draw 1 rfl (by decide +kernel) ?_ | refine WC.draw 2 rfl (by decide +kernel) ?_ | refine WC.draw 3 rfl (by decide +kernel) ?_ | refine WC.draw 4 rfl (by decide +kernel) ?_ | refine WC.draw 5 rfl (by decide +kernel) ?_ | refine WC.draw 6 rfl (by decide +kernel) ?_ | refine WC.draw 7 rfl (by decide +kernel) ?_ | refine WC.draw 8 rfl (by decide +kernel) ?_ | refine WC.draw 9 rfl (by decide +kernel) ?_ | refine WC.draw 10 rfl (by decide +kernel) ?_ | refine WC.draw 11 rfl (by decide +kernel) ?_ | refine WC.draw 12 rfl (by decide +kernel) ?_ | refine WC.draw 13 rfl (by decide +kernel) ?_ | refine WC.draw 14 rfl (by decide +kernel) ?_ | refine WC.draw 15 rfl (by decide +kernel) ?_ | refine WC.draw 16 rfl (by decide +kernel) ?_ | refine WC.draw 17 rfl (by decide +kernel) ?_ | refine WC.draw 18 rfl (by decide +kernel) ?_ | refine WC.draw 19 rfl (by decide +kernel) ?_ | refine WC.draw 20 rfl (by decide +kernel) ?_ | refine WC.draw 21 rfl (by decide +kernel) ?_ | refine WC.draw 22 rfl (by decide +kernel) ?_ | refine WC.draw 23 rfl (by decide +kernel) ?_ | refine WC.draw 24 rfl (by decide +kernel) ?_)); (repeat (refine WD.cons rfl (fun c h => by cases h) sq_EQF_1 ?_)); refine WD.nil ?_)); (try (refine st ?_; (repeat intro zzc)))))) | ((first | (refine iF 124 rfl ?_; refine w_callG Tryd.func124 ?_ (hs := tz_any (by assumption))) | ((refine iDraw ?_; (first | refine WC.drawAll rfl (by decide +kernel) ?_ | refine WC.draw 1 rfl (by decide +kernel) ?_ | refine WC.draw 2 rfl (by decide +kernel) ?_ | refine WC.draw 3 rfl (by decide +kernel) ?_ | refine WC.draw 4 rfl (by decide +kernel) ?_ | refine WC.draw 5 rfl (by decide +kernel) ?_ | refine WC.draw 6 rfl (by decide +kernel) ?_ | refine WC.draw 7 rfl (by decide +kernel) ?_ | refine WC.draw 8 rfl (by decide +kernel) ?_ | refine WC.draw 9 rfl (by decide +kernel) ?_ | refine WC.draw 10 rfl (by decide +kernel) ?_ | refine WC.draw 11 rfl (by decide +kernel) ?_ | refine WC.draw 12 rfl (by decide +kernel) ?_ | refine WC.draw 13 rfl (by decide +kernel) ?_ | refine WC.draw 14 rfl (by decide +kernel) ?_ | refine WC.draw 15 rfl (by decide +kernel) ?_ | refine WC.draw 16 rfl (by decide +kernel) ?_ | refine WC.draw 17 rfl (by decide +kernel) ?_ | refine WC.draw 18 rfl (by decide +kernel) ?_ | refine WC.draw 19 rfl (by decide +kernel) ?_ | refine WC.draw 20 rfl (by decide +kernel) ?_ | refine WC.draw 21 rfl (by decide +kernel) ?_ | refine WC.draw 22 rfl (by decide +kernel) ?_ | refine WC.draw 23 rfl (by decide +kernel) ?_ | refine WC.draw 24 rfl (by decide +kernel) ?_)); (repeat (refine WD.cons rfl (fun c h => by cases h) sq_EQF_1 ?_)); refine WD.nil ?_)); (try (refine st ?_; (repeat intro zzc))))); (repeat ((first | (refine iF 124 rfl ?_; refine w_callG Tryd.func124 ?_ (hs := tz_any (by assumption))) | ((refine iDraw ?_; (first | refine WC.drawAll rfl (by decide +kernel) ?_ | refine WC.draw 1 rfl (by decide +kernel) ?_ | refine WC.draw 2 rfl (by decide +kernel) ?_ | refine WC.draw 3 rfl (by decide +kernel) ?_ | refine WC.draw 4 rfl (by decide +kernel) ?_ | refine WC.draw 5 rfl (by decide +kernel) ?_ | refine WC.draw 6 rfl (by decide +kernel) ?_ | refine WC.draw 7 rfl (by decide +kernel) ?_ | refine WC.draw 8 rfl (by decide +kernel) ?_ | refine WC.draw 9 rfl (by decide +kernel) ?_ | refine WC.draw 10 rfl (by decide +kernel) ?_ | refine WC.draw 11 rfl (by decide +kernel) ?_ | refine WC.draw 12 rfl (by decide +kernel) ?_ | refine WC.draw 13 rfl (by decide +kernel) ?_ | refine WC.draw 14 rfl (by decide +kernel) ?_ | refine WC.draw 15 rfl (by decide +kernel) ?_ | refine WC.draw 16 rfl (by decide +kernel) ?_ | refine WC.draw 17 rfl (by decide +kernel) ?_ | refine WC.draw 18 rfl (by decide +kernel) ?_ | refine WC.draw 19 rfl (by decide +kernel) ?_ | refine WC.draw 20 rfl (by decide +kernel) ?_ | refine WC.draw 21 rfl (by decide +kernel) ?_ | refine WC.draw 22 rfl (by decide +kernel) ?_ | refine WC.draw 23 rfl (by decide +kernel) ?_ | refine WC.draw 24 rfl (by decide +kernel) ?_)); (repeat (refine WD.cons rfl (fun c h => by cases h) sq_EQF_1 ?_)); refine WD.nil ?_)); (try (refine st ?_; (repeat intro zzc))))); (repeat revert zzc); exact zzn.out) : G := h ⟨next⟩
theorem tzAny_any {w0 : World} {m : Mem} {H : SHeap} (hg : GTabs Tryd.prog m) : Does Tryd.prog 119 #[.int .u64 16] w0 m H (Gives (.int .i64 4) m H) := by
  refine Does.of_body (args := [.int .u64 16]) Tryd.func119 rfl Tryd.ntmps119 rfl ?_
  (try (refine st_EQF_1 ?_; intros))
  exact q_fin0 (H0 := H) (Gives.mk rfl) (hd := zpk)
theorem sq_EQF_2 {G : Prop} (h : G := by (repeat (first | (refine sp ?_; (repeat intro zzc)) | (refine iF 124 rfl ?_; refine w_callG Tryd.func124 ?_ (hs := tz_any (by assumption))) | (refine iF 119 rfl ?_; refine w_callG Tryd.func119 ?_ (hs := tzAny_any (by assumption))) | (refine iF 118 rfl ?_; refine w_callG Tryd.func118 ?_ (hs := pow2_any _ _ _)))); exact WQ.q1 rfl) : G := h
theorem st_EQF_2 {G G' : Prop} (next : G') (h : Bx G' → G := by intro zzn; (first | ((refine st ?_; (repeat intro zzc)); (try ((first | (refine iF 124 rfl ?_; refine w_callG Tryd.func124 ?_ (hs := tz_any (by assumption))) | (refine iF 119 rfl ?_; refine w_callG Tryd.func119 ?_ (hs := tzAny_any (by assumption))) | (refine iF 118 rfl ?_; refine w_callG Tryd.func118 ?_ (hs := pow2_any _ _ _)) | ((refine iDraw ?_; (first | refine WC.drawAll rfl (by decide +kernel) ?_ | refine WC.draw 1 rfl (by decide +kernel) ?_ | refine WC.draw 2 rfl (by decide +kernel) ?_ | refine WC.draw 3 rfl (by decide +kernel) ?_ | refine WC.draw 4 rfl (by decide +kernel) ?_ | refine WC.draw 5 rfl (by decide +kernel) ?_ | refine WC.draw 6 rfl (by decide +kernel) ?_ | refine WC.draw 7 rfl (by decide +kernel) ?_ | refine WC.draw 8 rfl (by decide +kernel) ?_ | refine WC.draw 9 rfl (by decide +kernel) ?_ | refine WC.draw 10 rfl (by decide +kernel) ?_ | refine WC.draw 11 rfl (by decide +kernel) ?_ | refine WC.draw 12 rfl (by decide +kernel) ?_ | refine WC.draw 13 rfl (by decide +kernel) ?_ | refine WC.draw 14 rfl (by decide +kernel) ?_ | refine WC.draw 15 rfl (by decide +kernel) ?_ | refine WC.draw 16 rfl (by decide +kernel) ?_ | refine WC.draw 17 rfl (by decide +kernel) ?_ | refine WC.draw 18 rfl (by decide +kernel) ?_ | refine WC.draw 19 rfl (by decide +kernel) ?_ | refine WC.draw 20 rfl (by decide +kernel) ?_ | refine WC.draw 21 rfl (by decide +kernel) ?_ | refine WC.draw 22 rfl (by decide +kernel) ?_ | refine WC.draw 23 rfl (by decide +kernel) ?_ | refine WC.draw 24 rfl (by decide +kernel) ?_)); (repeat (refine WD.cons rfl (fun c h => by cases h) sq_EQF_2 ?_)); refine WD.nil ?_)); (try (refine st ?_; (repeat intro zzc)))))) | ((first | (refine iF 124 rfl ?_; refine w_callG Tryd.func124 ?_ (hs := tz_any (by assumption))) | (refine iF 119 rfl ?_; refine w_callG Tryd.func119 ?_ (hs := tzAny_any (by assumption))) | (refine iF 118 rfl ?_; refine w_callG Tryd.func118 ?_ (hs := pow2_any _ _ _)) | ((refine iDraw ?_; (first | refine WC.drawAll rfl (by decide +kernel) ?_ | refine WC.draw 1 rfl (by decide +kernel) ?_ | refine WC.draw 2 rfl (by decide +kernel) ?_ | refine WC.draw 3 rfl (by decide +kernel) ?_ | refine WC.draw 4 rfl (by decide +kernel) ?_ | refine WC.draw 5 rfl (by decide +kernel) ?_ | refine WC.draw 6 rfl (by decide +kernel) ?_ | refine WC.draw 7 rfl (by decide +kernel) ?_ | refine WC.draw 8 rfl (by decide +kernel) ?_ | refine WC.draw 9 rfl (by decide +kernel) ?_ | refine WC.draw 10 rfl (by decide +kernel) ?_ | refine WC.draw 11 rfl (by decide +kernel) ?_ | refine WC.draw 12 rfl (by decide +kernel) ?_ | refine WC.draw 13 rfl (by decide +kernel) ?_ | refine WC.draw 14 rfl (by decide +kernel) ?_ | refine WC.draw 15 rfl (by decide +kernel) ?_ | refine WC.draw 16 rfl (by decide +kernel) ?_ | refine WC.draw 17 rfl (by decide +kernel) ?_ | refine WC.draw 18 rfl (by decide +kernel) ?_ | refine WC.draw 19 rfl (by decide +kernel) ?_ | refine WC.draw 20 rfl (by decide +kernel) ?_ | refine WC.draw 21 rfl (by decide +kernel) ?_ | refine WC.draw 22 rfl (by decide +kernel) ?_ | refine WC.draw 23 rfl (by decide +kernel) ?_ | refine WC.draw 24 rfl (by decide +kernel) ?_)); (repeat (refine WD.cons rfl (fun c h => by cases h) sq_EQF_2 ?_)); refine WD.nil ?_)); (try (refine st ?_; (repeat intro zzc))))); (repeat ((first | (refine iF 124 rfl ?_; refine w_callG Tryd.func124 ?_ (hs := tz_any (by assumption))) | (refine iF 119 rfl ?_; refine w_callG Tryd.func119 ?_ (hs := tzAny_any (by assumption))) | (refine iF 118 rfl ?_; refine w_callG Tryd.func118 ?_ (hs := pow2_any _ _ _)) | ((refine iDraw ?_; (first | refine WC.drawAll rfl (by decide +kernel) ?_ | refine WC.draw 1 rfl (by decide +kernel) ?_ | refine WC.draw 2 rfl (by decide +kernel) ?_ | refine WC.draw 3 rfl (by decide +kernel) ?_ | refine WC.draw 4 rfl (by decide +kernel) ?_ | refine WC.draw 5 rfl (by decide +kernel) ?_ | refine WC.draw 6 rfl (by decide +kernel) ?_ | refine WC.draw 7 rfl (by decide +kernel) ?_ | refine WC.draw 8 rfl (by decide +kernel) ?_ | refine WC.draw 9 rfl (by decide +kernel) ?_ | refine WC.draw 10 rfl (by decide +kernel) ?_ | refine WC.draw 11 rfl (by decide +kernel) ?_ | refine WC.draw 12 rfl (by decide +kernel) ?_ | refine WC.draw 13 rfl (by decide +kernel) ?_ | refine WC.draw 14 rfl (by decide +kernel) ?_ | refine WC.draw 15 rfl (by decide +kernel) ?_ | refine WC.draw 16 rfl (by decide +kernel) ?_ | refine WC.draw 17 rfl (by decide +kernel) ?_ | refine WC.draw 18 rfl (by decide +kernel) ?_ | refine WC.draw 19 rfl (by decide +kernel) ?_ | refine WC.draw 20 rfl (by decide +kernel) ?_ | refine WC.draw 21 rfl (by decide +kernel) ?_ | refine WC.draw 22 rfl (by decide +kernel) ?_ | refine WC.draw 23 rfl (by decide +kernel) ?_ | refine WC.draw 24 rfl (by decide +kernel) ?_)); (repeat (refine WD.cons rfl (fun c h => by cases h) sq_EQF_2 ?_)); refine WD.nil ?_)); (try (refine st ?_; (repeat intro zzc))))); (repeat revert zzc); exact zzn.out) : G := h ⟨next⟩
def digs36 : List UInt8 := [48, 49, 50, 51, 52, 53, 54, 55, 56, 57, 97, 98, 99, 100, 101, 102, 103, 104, 105, 106, 107, 108, 109, 110, 111, 112, 113, 114, 115, 116, 117, 118, 119, 120, 121, 122]
theorem digs36_hex {k : Nat} (h : k < 16) : gb digs36 k = (hexB k).toNat := by
  have all : ∀ i : Fin 16, gb digs36 i.1 = (hexB i.1).toNat := by decide
  exact all ⟨k, h⟩
theorem drop_put {L : List Value} {j : Nat} {v : Value} {M : List Value} (h : j < L.length) (hM : L.drop (j + 1) = M) : (L.set j v).drop j = v :: M := by
  rw [List.drop_eq_getElem_cons (by rw [List.length_set]; exact h), List.getElem_set_self, List.drop_set_of_lt (Nat.lt_succ_self j), hM]
theorem formatBits_any (u0 : Nat) (hu : u0 ≤ 1114111) {w0 : World} {m : Mem} {H : SHeap} (hg : GTabs Tryd.prog m) :
    Does Tryd.prog 107 #[.slice none 0 0, .int .u64 (u0 : Int), .int .i64 16, .bool false, .bool false] w0 m H (Gives (.tuple #[.slice none 0 0, str (hexL u0)]) m H) := by
  refine Does.of_body (args := [.slice none 0 0, .int .u64 (u0 : Int), .int .i64 16, .bool false, .bool false]) Tryd.func107 rfl Tryd.ntmps107 rfl ?_
  (refine st_EQF_2 ?_; intros; rename_i bA)
  refine WL.sub64u rfl rfl rfl (by omega) ?_
  (try (refine st_EQF_2 ?_; intros))
  refine WC.loopH [(1, .int .u64 ((u0) : Int)), (13, .int .i64 ((65) : Int)), (12, .pointer (some ⟨bA, 0, none⟩)), (14, .int .u64 4), (15, .int .u64 16), (16, .int .u64 15), (3, .bool false), (4, .bool false), (10, .slice none 0 0)] ?_ ?_ (fun j r ds m' H' => ∃ (u : Nat) (i : Nat) (d : List UInt8) (L : List Value), j = 2 * u ∧ r = [(1, .int .u64 (u : Int)), (13, .int .i64 (i : Int)), (12, .pointer (some ⟨bA, 0, none⟩)), (14, .int .u64 4), (15, .int .u64 16), (16, .int .u64 15), (3, .bool false), (4, .bool false), (10, .slice none 0 0)] ∧ ds = [] ∧ m = m' ∧ H' = .blk bA (.cells L.toArray 178 (0, 0)) :: H ∧ (u ≤ 1114111) ∧ (hexL u ++ d = hexL u0) ∧ (i + d.length = 65) ∧ (L.length = 65) ∧ (L.drop i = d.map (fun b => Value.int .u8 (b.toNat : Int)))) (2 * (u0)) ⟨u0, 65, [], List.replicate 65 (Value.int .u8 0), rfl, rfl, rfl, rfl, rfl, hu, List.append_nil _, rfl, rfl, rfl⟩ ?_
  · (repeat (first | exact Env.Sub.nil | refine Env.Sub.cons rfl ?_))
  · exact zpk
  rintro j r ds m' H' ⟨u, i, d, L, rfl, rfl, rfl, rfl, rfl, hu1, hd, hid, hL, hLd⟩
  have hln := congrArg List.length hd
  rw [List.length_append] at hln
  have h6 := hexL_length 5 u0 (by omega)
  have hge := (hexL_ok u).2.2
  obtain ⟨j, rfl⟩ : ∃ j, i = j + 1 := ⟨i - 1, by omega⟩
  have ei : ((j + 1 : Nat) : Int) - 1 = (j : Int) := by omega
  have hset : ∀ (c : UInt8), (L.set j (.int .u8 (c.toNat : Int))).drop j = (c :: d).map (fun b => Value.int .u8 (b.toNat : Int)) := fun c => by
    rw [List.map_cons]; exact drop_put (by omega) hLd
  have hl36 : digs36.length = 36 := rfl
  by_cases h16 : 16 ≤ u
  · have hx : hexL u = hexL (u / 16) ++ [hexB (u % 16)] := by rw [hexL, if_neg (by omega)]
    have e1 : (u : Int) / 2 ^ 4 = ((u / 16 : Nat) : Int) := by omega
    (try (refine st_EQF_2 ?_; intros))
    refine WL.and64u rfl rfl rfl (by omega) (by omega) ?_
    rw [Int.toNat_natCast, show (15 : Int).toNat = 15 from rfl, and15, ei]
    (try (refine st_EQF_2 ?_; intros))
    refine WL.indexS (s := digs36) (k := u % 16) rfl rfl rfl rfl rfl (by omega) ?_
    rw [digs36_hex (show u % 16 < 16 by omega)]
    refine WL.indexAddrA (i := j) (q := j) rfl rfl rfl rfl rfl (by omega) rfl (by rw [lit_eq]; congr 1; omega) ?_
    refine WL.store1 rfl rfl rfl rfl (by (repeat (first | exact Repl.here | apply Repl.there))) (by omega) rfl ?_
    (try (refine st_EQF_2 ?_; intros))
    rw [e1]
    refine WQ.next (2 * (u / 16)) ⟨u / 16, j, hexB (u % 16) :: d, L.set j (.int .u8 ((hexB (u % 16)).toNat : Int)), rfl, rfl, rfl, rfl, rfl, ?_, ?_, ?_, ?_, ?_⟩ (by omega) zsb zpk
    · omega
    · rw [← hd, hx, List.append_assoc]; rfl
    · rw [List.length_cons]; omega
    · rw [List.length_set]; exact hL
    · exact hset _
  · have hx : hexL u = [hexB u] := by rw [hexL, if_pos (by omega)]
    rw [hx] at hd
    (try (refine st_EQF_2 ?_; intros))
    rw [ei]
    (try (refine st_EQF_2 ?_; intros))
    refine WL.indexS (s := digs36) (k := u) rfl rfl rfl rfl rfl (by omega) ?_
    rw [digs36_hex (show u < 16 by omega)]
    refine WL.indexAddrA (i := j) (q := j) rfl rfl rfl rfl rfl (by omega) rfl (by rw [lit_eq]; congr 1; omega) ?_
    refine WL.store1 rfl rfl rfl rfl (by (repeat (first | exact Repl.here | apply Repl.there))) (by omega) rfl ?_
    (try (refine st_EQF_2 ?_; intros))
    refine WL.slArrL (q := j) rfl rfl rfl rfl rfl rfl (by omega) ?_
    refine WL.bytesBlkO (s := hexL u0) rfl zhs (by rw [hset, ← hd, List.take_of_length_le (by simp; omega)]; rfl) (by rw [← hd]; simp; omega) rfl rfl rfl rfl rfl ?_
    (try (refine st_EQF_2 ?_; intros))
    exact q_fin0 (H0 := H) (Gives.mk rfl) (hd := zpk)
theorem sq_EQF_3 {G : Prop} (h : G := by (repeat (first | (refine sp ?_; (repeat intro zzc)) | (refine iF 124 rfl ?_; refine w_callG Tryd.func124 ?_ (hs := tz_any (by assumption))) | (refine iF 119 rfl ?_; refine w_callG Tryd.func119 ?_ (hs := tzAny_any (by assumption))) | (refine iF 118 rfl ?_; refine w_callG Tryd.func118 ?_ (hs := pow2_any _ _ _)) | (refine iF 107 rfl ?_; refine w_callG Tryd.func107 ?_ (hs := formatBits_any _ (by assumption) (by assumption))))); exact WQ.q1 rfl) : G := h
theorem st_EQF_3 {G G' : Prop} (next : G') (h : Bx G' → G := by intro zzn; (first | ((refine st ?_; (repeat intro zzc)); (try ((first | (refine iF 124 rfl ?_; refine w_callG Tryd.func124 ?_ (hs := tz_any (by assumption))) | (refine iF 119 rfl ?_; refine w_callG Tryd.func119 ?_ (hs := tzAny_any (by assumption))) | (refine iF 118 rfl ?_; refine w_callG Tryd.func118 ?_ (hs := pow2_any _ _ _)) | (refine iF 107 rfl ?_; refine w_callG Tryd.func107 ?_ (hs := formatBits_any _ (by assumption) (by assumption))) | ((refine iDraw ?_; (first | refine WC.drawAll rfl (by decide +kernel) ?_ | refine WC.draw 1 rfl (by decide +kernel) ?_ | refine WC.draw 2 rfl (by decide +kernel) ?_ | refine WC.draw 3 rfl (by decide +kernel) ?_ | refine WC.draw 4 rfl (by decide +kernel) ?_ | refine WC.draw 5 rfl (by decide +kernel) ?_ | refine WC.draw 6 rfl (by decide +kernel) ?_ | refine WC.draw 7 rfl (by decide +kernel) ?_ | refine WC.draw 8 rfl (by decide +kernel) ?_ | refine WC.draw 9 rfl (by decide +kernel) ?_ | refine WC.draw 10 rfl (by decide +kernel) ?_ | refine WC.draw 11 rfl (by decide +kernel) ?_ | refine WC.draw 12 rfl (by decide +kernel) ?_ | refine WC.draw 13 rfl (by decide +kernel) ?_ | refine WC.draw 14 rfl (by decide +kernel) ?_ | refine WC.draw 15 rfl (by decide +kernel) ?_ | refine WC.draw 16 rfl (by decide +kernel) ?_ | refine WC.draw 17 rfl (by decide +kernel) ?_ | refine WC.draw 18 rfl (by decide +kernel) ?_ | refine WC.draw 19 rfl (by decide +kernel) ?_ | refine WC.draw 20 rfl (by decide +kernel) ?_ | refine WC.draw 21 rfl (by decide +kernel) ?_ | refine WC.draw 22 rfl (by decide +kernel) ?_ | refine WC.draw 23 rfl (by decide +kernel) ?_ | refine WC.draw 24 rfl (by decide +kernel) ?_)); (repeat (refine WD.cons rfl (fun c h => by cases h) sq_EQF_3 ?_)); refine WD.nil ?_)); (try (refine st ?_; (repeat intro zzc)))))) | ((first | (refine iF 124 rfl ?_; refine w_callG Tryd.func124 ?_ (hs := tz_any (by assumption))) | (refine iF 119 rfl ?_; refine w_callG Tryd.func119 ?_ (hs := tzAny_any (by assumption))) | (refine iF 118 rfl ?_; refine w_callG Tryd.func118 ?_ (hs := pow2_any _ _ _)) | (refine iF 107 rfl ?_; refine w_callG Tryd.func107 ?_ (hs := formatBits_any _ (by assumption) (by assumption))) | ((refine iDraw ?_; (first | refine WC.drawAll rfl (by decide +kernel) ?_ | refine WC.draw 1 rfl (by decide +kernel) ?_ | refine WC.draw 2 rfl (by decide +kernel) ?_ | refine WC.draw 3 rfl (by decide +kernel) ?_ | refine WC.draw 4 rfl (by decide +kernel) ?_ | refine WC.draw 5 rfl (by decide +kernel) ?_ | refine WC.draw 6 rfl (by decide +kernel) ?_ | refine WC.draw 7 rfl (by decide +kernel) ?_ | refine WC.draw 8 rfl (by decide +kernel) ?_ | refine WC.draw 9 rfl (by decide +kernel) ?_ | refine WC.draw 10 rfl (by decide +kernel) ?_ | refine WC.draw 11 rfl (by decide +kernel) ?_ | refine WC.draw 12 rfl (by decide +kernel) ?_ | refine WC.draw 13 rfl (by decide +kernel) ?_ | refine WC.draw 14 rfl (by decide +kernel) ?_ | refine WC.draw 15 rfl (by decide +kernel) ?_ | refine WC.draw 16 rfl (by decide +kernel) ?_ | refine WC.draw 17 rfl (by decide +kernel) ?_ | refine WC.draw 18 rfl (by decide +kernel) ?_ | refine WC.draw 19 rfl (by decide +kernel) ?_ | refine WC.draw 20 rfl (by decide +kernel) ?_ | refine WC.draw 21 rfl (by decide +kernel) ?_ | refine WC.draw 22 rfl (by decide +kernel) ?_ | refine WC.draw 23 rfl (by decide +kernel) ?_ | refine WC.draw 24 rfl (by decide +kernel) ?_)); (repeat (refine WD.cons rfl (fun c h => by cases h) sq_EQF_3 ?_)); refine WD.nil ?_)); (try (refine st ?_; (repeat intro zzc))))); (repeat ((first | (refine iF 124 rfl ?_; refine w_callG Tryd.func124 ?_ (hs := tz_any (by assumption))) | (refine iF 119 rfl ?_; refine w_callG Tryd.func119 ?_ (hs := tzAny_any (by assumption))) | (refine iF 118 rfl ?_; refine w_callG Tryd.func118 ?_ (hs := pow2_any _ _ _)) | (refine iF 107 rfl ?_; refine w_callG Tryd.func107 ?_ (hs := formatBits_any _ (by assumption) (by assumption))) | ((refine iDraw ?_; (first | refine WC.drawAll rfl (by decide +kernel) ?_ | refine WC.draw 1 rfl (by decide +kernel) ?_ | refine WC.draw 2 rfl (by decide +kernel) ?_ | refine WC.draw 3 rfl (by decide +kernel) ?_ | refine WC.draw 4 rfl (by decide +kernel) ?_ | refine WC.draw 5 rfl (by decide +kernel) ?_ | refine WC.draw 6 rfl (by decide +kernel) ?_ | refine WC.draw 7 rfl (by decide +kernel) ?_ | refine WC.draw 8 rfl (by decide +kernel) ?_ | refine WC.draw 9 rfl (by decide +kernel) ?_ | refine WC.draw 10 rfl (by decide +kernel) ?_ | refine WC.draw 11 rfl (by decide +kernel) ?_ | refine WC.draw 12 rfl (by decide +kernel) ?_ | refine WC.draw 13 rfl (by decide +kernel) ?_ | refine WC.draw 14 rfl (by decide +kernel) ?_ | refine WC.draw 15 rfl (by decide +kernel) ?_ | refine WC.draw 16 rfl (by decide +kernel) ?_ | refine WC.draw 17 rfl (by decide +kernel) ?_ | refine WC.draw 18 rfl (by decide +kernel) ?_ | refine WC.draw 19 rfl (by decide +kernel) ?_ | refine WC.draw 20 rfl (by decide +kernel) ?_ | refine WC.draw 21 rfl (by decide +kernel) ?_ | refine WC.draw 22 rfl (by decide +kernel) ?_ | refine WC.draw 23 rfl (by decide +kernel) ?_ | refine WC.draw 24 rfl (by decide +kernel) ?_)); (repeat (refine WD.cons rfl (fun c h => by cases h) sq_EQF_3 ?_)); refine WD.nil ?_)); (try (refine st ?_; (repeat intro zzc))))); (repeat revert zzc); exact zzn.out) : G := h ⟨next⟩
theorem formatIntI_any (u0 : Nat) (hu : u0 ≤ 1114111) {w0 : World} {m : Mem} {H : SHeap} (hg : GTabs Tryd.prog m) :
    Does Tryd.prog 91 #[.int .i64 (u0 : Int), .int .i64 16] w0 m H (Gives (str (hexL u0)) m H) := by
  refine Does.of_body (args := [.int .i64 (u0 : Int), .int .i64 16]) Tryd.func91 rfl Tryd.ntmps91 rfl ?_
  have e0 : dcd ((u0 : Int) < 0) = false := dcd_false (by omega)
  (try (refine st_EQF_3 ?_; intros))
  rw [e0]
  (try (refine st_EQF_3 ?_; intros))
  exact q_fin0 (H0 := H) (Gives.mk rfl) (hd := zpk)
theorem sq_EQF_4 {G : Prop} (h : G := by (repeat (first | (refine sp ?_; (repeat intro zzc)) | (refine iF 124 rfl ?_; refine w_callG Tryd.func124 ?_ (hs := tz_any (by assumption))) | (refine iF 119 rfl ?_; refine w_callG Tryd.func119 ?_ (hs := tzAny_any (by assumption))) | (refine iF 118 rfl ?_; refine w_callG Tryd.func118 ?_ (hs := pow2_any _ _ _)) | (refine iF 107 rfl ?_; refine w_callG Tryd.func107 ?_ (hs := formatBits_any _ (by assumption) (by assumption))) | (refine iF 91 rfl ?_; refine w_callG Tryd.func91 ?_ (hs := formatIntI_any _ (by assumption) (by assumption))))); exact WQ.q1 rfl) : G := h
theorem st_EQF_4 {G G' : Prop} (next : G') (h : Bx G' → G := by intro zzn; (first | ((refine st ?_; (repeat intro zzc)); (try ((first | (refine iF 124 rfl ?_; refine w_callG Tryd.func124 ?_ (hs := tz_any (by assumption))) | (refine iF 119 rfl ?_; refine w_callG Tryd.func119 ?_ (hs := tzAny_any (by assumption))) | (refine iF 118 rfl ?_; refine w_callG Tryd.func118 ?_ (hs := pow2_any _ _ _)) | (refine iF 107 rfl ?_; refine w_callG Tryd.func107 ?_ (hs := formatBits_any _ (by assumption) (by assumption))) | (refine iF 91 rfl ?_; refine w_callG Tryd.func91 ?_ (hs := formatIntI_any _ (by assumption) (by assumption))) | ((refine iDraw ?_; (first | refine WC.drawAll rfl (by decide +kernel) ?_ | refine WC.draw 1 rfl (by decide +kernel) ?_ | refine WC.draw 2 rfl (by decide +kernel) ?_ | refine WC.draw 3 rfl (by decide +kernel) ?_ | refine WC.draw 4 rfl (by decide +kernel) ?_ | refine WC.draw 5 rfl (by decide +kernel) ?_ | refine WC.draw 6 rfl (by decide +kernel) ?_ | refine WC.draw 7 rfl (by decide +kernel) ?_ | refine WC.draw 8 rfl (by decide +kernel) ?_ | refine WC.draw 9 rfl (by decide +kernel) ?_ | refine WC.draw 10 rfl (by decide +kernel) ?_ | refine WC.draw 11 rfl (by decide +kernel) ?_ | refine WC.draw 12 rfl (by decide +kernel) ?_ | refine WC.draw 13 rfl (by decide +kernel) ?_ | refine WC.draw 14 rfl (by decide +kernel) ?_ | refine WC.draw 15 rfl (by decide +kernel) ?_ | refine WC.draw 16 rfl (by decide +kernel) ?_ | refine WC.draw 17 rfl (by decide +kernel) ?_ | refine WC.draw 18 rfl (by decide +kernel) ?_ | refine WC.draw 19 rfl (by decide +kernel) ?_ | refine WC.draw 20 rfl (by decide +kernel) ?_ | refine WC.draw 21 rfl (by decide +kernel) ?_ | refine WC.draw 22 rfl (by decide +kernel) ?_ | refine WC.draw 23 rfl (by decide +kernel) ?_ | refine WC.draw 24 rfl (by decide +kernel) ?_)); (repeat (refine WD.cons rfl (fun c h => by cases h) sq_EQF_4 ?_)); refine WD.nil ?_)); (try (refine st ?_; (repeat intro zzc)))))) | ((first | (refine iF 124 rfl ?_; refine w_callG Tryd.func124 ?_ (hs := tz_any (by assumption))) | (refine iF 119 rfl ?_; refine w_callG Tryd.func119 ?_ (hs := tzAny_any (by assumption))) | (refine iF 118 rfl ?_; refine w_callG Tryd.func118 ?_ (hs := pow2_any _ _ _)) | (refine iF 107 rfl ?_; refine w_callG Tryd.func107 ?_ (hs := formatBits_any _ (by assumption) (by assumption))) | (refine iF 91 rfl ?_; refine w_callG Tryd.func91 ?_ (hs := formatIntI_any _ (by assumption) (by assumption))) | ((refine iDraw ?_; (first | refine WC.drawAll rfl (by decide +kernel) ?_ | refine WC.draw 1 rfl (by decide +kernel) ?_ | refine WC.draw 2 rfl (by decide +kernel) ?_ | refine WC.draw 3 rfl (by decide +kernel) ?_ | refine WC.draw 4 rfl (by decide +kernel) ?_ | refine WC.draw 5 rfl (by decide +kernel) ?_ | refine WC.draw 6 rfl (by decide +kernel) ?_ | refine WC.draw 7 rfl (by decide +kernel) ?_ | refine WC.draw 8 rfl (by decide +kernel) ?_ | refine WC.draw 9 rfl (by decide +kernel) ?_ | refine WC.draw 10 rfl (by decide +kernel) ?_ | refine WC.draw 11 rfl (by decide +kernel) ?_ | refine WC.draw 12 rfl (by decide +kernel) ?_ | refine WC.draw 13 rfl (by decide +kernel) ?_ | refine WC.draw 14 rfl (by decide +kernel) ?_ | refine WC.draw 15 rfl (by decide +kernel) ?_ | refine WC.draw 16 rfl (by decide +kernel) ?_ | refine WC.draw 17 rfl (by decide +kernel) ?_ | refine WC.draw 18 rfl (by decide +kernel) ?_ | refine WC.draw 19 rfl (by decide +kernel) ?_ | refine WC.draw 20 rfl (by decide +kernel) ?_ | refine WC.draw 21 rfl (by decide +kernel) ?_ | refine WC.draw 22 rfl (by decide +kernel) ?_ | refine WC.draw 23 rfl (by decide +kernel) ?_ | refine WC.draw 24 rfl (by decide +kernel) ?_)); (repeat (refine WD.cons rfl (fun c h => by cases h) sq_EQF_4 ?_)); refine WD.nil ?_)); (try (refine st ?_; (repeat intro zzc))))); (repeat ((first | (refine iF 124 rfl ?_; refine w_callG Tryd.func124 ?_ (hs := tz_any (by assumption))) | (refine iF 119 rfl ?_; refine w_callG Tryd.func119 ?_ (hs := tzAny_any (by assumption))) | (refine iF 118 rfl ?_; refine w_callG Tryd.func118 ?_ (hs := pow2_any _ _ _)) | (refine iF 107 rfl ?_; refine w_callG Tryd.func107 ?_ (hs := formatBits_any _ (by assumption) (by assumption))) | (refine iF 91 rfl ?_; refine w_callG Tryd.func91 ?_ (hs := formatIntI_any _ (by assumption) (by assumption))) | ((refine iDraw ?_; (first | refine WC.drawAll rfl (by decide +kernel) ?_ | refine WC.draw 1 rfl (by decide +kernel) ?_ | refine WC.draw 2 rfl (by decide +kernel) ?_ | refine WC.draw 3 rfl (by decide +kernel) ?_ | refine WC.draw 4 rfl (by decide +kernel) ?_ | refine WC.draw 5 rfl (by decide +kernel) ?_ | refine WC.draw 6 rfl (by decide +kernel) ?_ | refine WC.draw 7 rfl (by decide +kernel) ?_ | refine WC.draw 8 rfl (by decide +kernel) ?_ | refine WC.draw 9 rfl (by decide +kernel) ?_ | refine WC.draw 10 rfl (by decide +kernel) ?_ | refine WC.draw 11 rfl (by decide +kernel) ?_ | refine WC.draw 12 rfl (by decide +kernel) ?_ | refine WC.draw 13 rfl (by decide +kernel) ?_ | refine WC.draw 14 rfl (by decide +kernel) ?_ | refine WC.draw 15 rfl (by decide +kernel) ?_ | refine WC.draw 16 rfl (by decide +kernel) ?_ | refine WC.draw 17 rfl (by decide +kernel) ?_ | refine WC.draw 18 rfl (by decide +kernel) ?_ | refine WC.draw 19 rfl (by decide +kernel) ?_ | refine WC.draw 20 rfl (by decide +kernel) ?_ | refine WC.draw 21 rfl (by decide +kernel) ?_ | refine WC.draw 22 rfl (by decide +kernel) ?_ | refine WC.draw 23 rfl (by decide +kernel) ?_ | refine WC.draw 24 rfl (by decide +kernel) ?_)); (repeat (refine WD.cons rfl (fun c h => by cases h) sq_EQF_4 ?_)); refine WD.nil ?_)); (try (refine st ?_; (repeat intro zzc))))); (repeat revert zzc); exact zzn.out) : G := h ⟨next⟩
theorem formatInt_any (u0 : Nat) (hu : u0 ≤ 1114111) {w0 : World} {m : Mem} {H : SHeap} (hg : GTabs Tryd.prog m) :
    Does Tryd.prog 81 #[.int .i64 (u0 : Int), .int .i64 16] w0 m H (Gives (str (hexL u0)) m H) := by
  refine Does.of_body (args := [.int .i64 (u0 : Int), .int .i64 16]) Tryd.func81 rfl Tryd.ntmps81 rfl ?_
  (try (refine st_EQF_4 ?_; intros))
  exact q_fin0 (H0 := H) (Gives.mk rfl) (hd := zpk)
end Go.Proofs.YtelgegefmjlimaaDoor

/-
  strings.Builder as the walks use it, for a seat that does not reach clusters. No condition.
-/
namespace Go.Proofs.YtelgegefmjlimaaDoor
open Go Go.Eng
set_option maxRecDepth 100000
set_option maxHeartbeats 4000000
set_option linter.all false
attribute [local irreducible] WL WC WQ QFun QLoop Does Q1 QRound QAssign Go.Addr.add
theorem extern_noEscape : Extern.find Tryd.f108 = some Extern.AbiNoEscape.same := by kernel_rfl
theorem copyCheck_any {b cap : Nat} {ao a : Option Addr} {t : List UInt8} (hao : ao = none ∨ ao = some ⟨b, 0, none⟩) (w0 : World) (m : Mem) (H : SHeap) :
    Does Tryd.prog 92 #[.pointer (some ⟨b, 0, none⟩)] w0 m (.blk b (.cells [.pointer ao, .slice a t.length cap].toArray 138 (0, 0)) :: .row a cap 5 1 (bCs t) :: H) (fun v m' H' => m' = m ∧ H' = .blk b (.cells [.pointer (some ⟨b, 0, none⟩), .slice a t.length cap].toArray 138 (0, 0)) :: .row a cap 5 1 (bCs t) :: H) := by
  refine Does.of_body (args := [.pointer (some ⟨b, 0, none⟩)]) Tryd.func92 rfl Tryd.ntmps92 rfl ?_
  rcases hao with rfl | rfl
  · (try (refine st ?_; intros))
    refine WL.toUnsafe rfl zhs (by exact Nat.succ_pos _) rfl rfl (by kernel_rfl) rfl ?_
    (try (refine st ?_; intros))
    refine WL.extern (vs := [.pointer (some ⟨b, 0, none⟩)]) Tryd.func108 rfl rfl (by kernel_rfl) extern_noEscape rfl (fun _ => rfl) rfl ?_
    (try (refine st ?_; intros))
    refine WL.fromUnsafe rfl zhs rfl rfl (by kernel_rfl) (by kernel_rfl) rfl ?_
    (try (refine st ?_; intros))
    exact q_finNorm0 (H0 := .blk b (.cells [.pointer (some ⟨b, 0, none⟩), .slice a t.length cap].toArray 138 (0, 0)) :: .row a cap 5 1 (bCs t) :: H) ⟨rfl, rfl⟩ (hd := zpk)
  · (try (refine st ?_; intros))
    refine WL.neqSameP (j := Tryd.prog.types[138]) rfl rfl rfl (by kernel_rfl) rfl ?_
    (try (refine st ?_; intros))
    exact q_finNorm0 (H0 := .blk b (.cells [.pointer (some ⟨b, 0, none⟩), .slice a t.length cap].toArray 138 (0, 0)) :: .row a cap 5 1 (bCs t) :: H) ⟨rfl, rfl⟩ (hd := zpk)
/-- a Builder that holds a text -/
def Bldr (b : Nat) (t : List UInt8) (H : SHeap) (H' : SHeap) : Prop :=
  ∃ (ao a : Option Addr) (cap : Nat), (ao = none ∨ ao = some ⟨b, 0, none⟩) ∧ (a = none ∨ 0 < cap) ∧ H' = .blk b (.cells [.pointer ao, .slice a t.length cap].toArray 138 (0, 0)) :: .row a cap 5 1 (bCs t) :: H
/-- there is room for both in one row -/
def FitsB (t s : List UInt8) : Prop := t.length + s.length ≤ 140737488355328
theorem writeString_any {b cap : Nat} {ao a : Option Addr} {t s : List UInt8} (hao : ao = none ∨ ao = some ⟨b, 0, none⟩) (hc : a = none ∨ 0 < cap) (hl : FitsB t s) (w0 : World) (m : Mem) (H : SHeap) :
    Does Tryd.prog 79 #[.pointer (some ⟨b, 0, none⟩), str s] w0 m (.blk b (.cells [.pointer ao, .slice a t.length cap].toArray 138 (0, 0)) :: .row a cap 5 1 (bCs t) :: H) (fun v m' H' => m' = m ∧ v = .tuple #[.int .i64 (s.length : Int), .nilIface] ∧ Bldr b (t ++ s) H H') := by
  refine Does.of_body (args := [.pointer (some ⟨b, 0, none⟩), str s]) Tryd.func79 rfl Tryd.ntmps79 rfl ?_
  have hbl := bCs_length t
  have e : bCs t ++ (s.map fun b => [Value.int .u8 (b.toNat : Int)]) = bCs (t ++ s) := by simp [bCs]
  (try (refine st ?_; intros))
  refine w_callF Tryd.func92 ?_ (hs := copyCheck_any hao _ _ _)
  rintro v m H1 ⟨rfl, rfl⟩
  (try (refine st ?_; intros))
  refine WL.appendS2 (s := s) rfl rfl rfl rfl (by (repeat (first | exact Out.here | apply Out.there))) rfl rfl rfl rfl hbl.symm (by rw [hbl]; exact hl) rfl ?_
  intro a2 cap2 hc2
  rw [e, hbl, ← List.length_append]
  (try (refine st ?_; intros))
  exact q_fin0 (H0 := .blk b (.cells [.pointer (some ⟨b, 0, none⟩), .slice a2 (t ++ s).length cap2].toArray 138 (0, 0)) :: .row a2 cap2 5 1 (bCs (t ++ s)) :: H) ⟨rfl, rfl, some ⟨b, 0, none⟩, a2, cap2, .inr rfl, hc2 hc, rfl⟩ (hd := zpk)
theorem sq_EQB_1 {G : Prop} (h : G := by (repeat (first | (refine sp ?_; (repeat intro zzc)) | (refine iSD rfl ?_; refine WL.sliceData rfl (by assumption) rfl ?_))); exact WQ.q1 rfl) : G := h
theorem cm_EQB_1 {G G' : Prop} (next : G') (h : Bx G' → G := by intro zzn; (try (refine wcal 0 ?_ (hwl := by intro zm zF zle; exact sq_EQB_1))); (try (refine wcal 1 ?_ (hwl := by intro zm zF zle; exact sq_EQB_1))); (try (refine wcal 2 ?_ (hwl := by intro zm zF zle; exact sq_EQB_1))); (try (refine wcal 3 ?_ (hwl := by intro zm zF zle; exact sq_EQB_1))); (try (refine wcal 4 ?_ (hwl := by intro zm zF zle; exact sq_EQB_1))); (try (refine wcal 5 ?_ (hwl := by intro zm zF zle; exact sq_EQB_1))); (try (refine wcal 6 ?_ (hwl := by intro zm zF zle; exact sq_EQB_1))); (try (refine wcal 7 ?_ (hwl := by intro zm zF zle; exact sq_EQB_1))); (try (refine wcal 8 ?_ (hwl := by intro zm zF zle; exact sq_EQB_1))); (try (refine wcal 9 ?_ (hwl := by intro zm zF zle; exact sq_EQB_1))); (try (refine wcal 10 ?_ (hwl := by intro zm zF zle; exact sq_EQB_1))); (try (refine wcal 11 ?_ (hwl := by intro zm zF zle; exact sq_EQB_1))); (try (refine wcal 12 ?_ (hwl := by intro zm zF zle; exact sq_EQB_1))); (try (refine wcal 13 ?_ (hwl := by intro zm zF zle; exact sq_EQB_1))); (try (refine wcal 14 ?_ (hwl := by intro zm zF zle; exact sq_EQB_1))); (try (refine wcal 15 ?_ (hwl := by intro zm zF zle; exact sq_EQB_1))); (try (refine wcal 16 ?_ (hwl := by intro zm zF zle; exact sq_EQB_1))); (try (refine wcal 17 ?_ (hwl := by intro zm zF zle; exact sq_EQB_1))); (try (refine wcal 18 ?_ (hwl := by intro zm zF zle; exact sq_EQB_1))); (try (refine wcal 19 ?_ (hwl := by intro zm zF zle; exact sq_EQB_1))); (try (refine wcal 20 ?_ (hwl := by intro zm zF zle; exact sq_EQB_1))); (try (refine wcal 21 ?_ (hwl := by intro zm zF zle; exact sq_EQB_1))); (try (refine wcal 22 ?_ (hwl := by intro zm zF zle; exact sq_EQB_1))); (try (refine wcal 23 ?_ (hwl := by intro zm zF zle; exact sq_EQB_1))); (try (refine wcal 24 ?_ (hwl := by intro zm zF zle; exact sq_EQB_1))); (try (refine wcal 25 ?_ (hwl := by intro zm zF zle; exact sq_EQB_1))); (try (refine wcal 26 ?_ (hwl := by intro zm zF zle; exact sq_EQB_1))); (try (refine wcal 27 ?_ (hwl := by intro zm zF zle; exact sq_EQB_1))); (try (refine wcal 28 ?_ (hwl := by intro zm zF zle; exact sq_EQB_1))); (try (refine wcal 29 ?_ (hwl := by intro zm zF zle; exact sq_EQB_1))); (try (refine wcal 30 ?_ (hwl := by intro zm zF zle; exact sq_EQB_1))); (try (refine wcal 31 ?_ (hwl := by intro zm zF zle; exact sq_EQB_1))); (try (refine wcal 32 ?_ (hwl := by intro zm zF zle; exact sq_EQB_1))); (try (refine wcal 33 ?_ (hwl := by intro zm zF zle; exact sq_EQB_1))); (try (refine wcal 34 ?_ (hwl := by intro zm zF zle; exact sq_EQB_1))); (try (refine wcal 35 ?_ (hwl := by intro zm zF zle; exact sq_EQB_1))); (try (refine wcal 36 ?_ (hwl := by intro zm zF zle; exact sq_EQB_1))); (try (refine wcal 37 ?_ (hwl := by intro zm zF zle; exact sq_EQB_1))); (try (refine wcal 38 ?_ (hwl := by intro zm zF zle; exact sq_EQB_1))); (try (refine wcal 39 ?_ (hwl := by intro zm zF zle; exact sq_EQB_1))); (try (refine wcal 40 ?_ (hwl := by intro zm zF zle; exact sq_EQB_1))); (try (refine wcal 41 ?_ (hwl := by intro zm zF zle; exact sq_EQB_1))); exact zzn.out) : G := h ⟨next⟩
theorem st_EQB_1 {G G' : Prop} (next : G') (h : Bx G' → G := by intro zzn; (first | ((refine st ?_; (repeat intro zzc)); (try ((first | (refine iSD rfl ?_; refine WL.sliceData rfl (by assumption) rfl ?_) | ((refine iDraw ?_; (first | refine WC.drawAll rfl (by decide +kernel) ?_ | refine WC.draw 1 rfl (by decide +kernel) ?_ | refine WC.draw 2 rfl (by decide +kernel) ?_ | refine WC.draw 3 rfl (by decide +kernel) ?_ | refine WC.draw 4 rfl (by decide +kernel) ?_ | refine WC.draw 5 rfl (by decide +kernel) ?_ | refine WC.draw 6 rfl (by decide +kernel) ?_ | refine WC.draw 7 rfl (by decide +kernel) ?_ | refine WC.draw 8 rfl (by decide +kernel) ?_ | refine WC.draw 9 rfl (by decide +kernel) ?_ | refine WC.draw 10 rfl (by decide +kernel) ?_ | refine WC.draw 11 rfl (by decide +kernel) ?_ | refine WC.draw 12 rfl (by decide +kernel) ?_ | refine WC.draw 13 rfl (by decide +kernel) ?_ | refine WC.draw 14 rfl (by decide +kernel) ?_ | refine WC.draw 15 rfl (by decide +kernel) ?_ | refine WC.draw 16 rfl (by decide +kernel) ?_ | refine WC.draw 17 rfl (by decide +kernel) ?_ | refine WC.draw 18 rfl (by decide +kernel) ?_ | refine WC.draw 19 rfl (by decide +kernel) ?_ | refine WC.draw 20 rfl (by decide +kernel) ?_ | refine WC.draw 21 rfl (by decide +kernel) ?_ | refine WC.draw 22 rfl (by decide +kernel) ?_ | refine WC.draw 23 rfl (by decide +kernel) ?_ | refine WC.draw 24 rfl (by decide +kernel) ?_)); (repeat (refine WD.cons rfl (fun c h => by cases h) sq_EQB_1 ?_)); refine WD.nil ?_)); (try (refine st ?_; (repeat intro zzc)))))) | ((first | (refine iSD rfl ?_; refine WL.sliceData rfl (by assumption) rfl ?_) | ((refine iDraw ?_; (first | refine WC.drawAll rfl (by decide +kernel) ?_ | refine WC.draw 1 rfl (by decide +kernel) ?_ | refine WC.draw 2 rfl (by decide +kernel) ?_ | refine WC.draw 3 rfl (by decide +kernel) ?_ | refine WC.draw 4 rfl (by decide +kernel) ?_ | refine WC.draw 5 rfl (by decide +kernel) ?_ | refine WC.draw 6 rfl (by decide +kernel) ?_ | refine WC.draw 7 rfl (by decide +kernel) ?_ | refine WC.draw 8 rfl (by decide +kernel) ?_ | refine WC.draw 9 rfl (by decide +kernel) ?_ | refine WC.draw 10 rfl (by decide +kernel) ?_ | refine WC.draw 11 rfl (by decide +kernel) ?_ | refine WC.draw 12 rfl (by decide +kernel) ?_ | refine WC.draw 13 rfl (by decide +kernel) ?_ | refine WC.draw 14 rfl (by decide +kernel) ?_ | refine WC.draw 15 rfl (by decide +kernel) ?_ | refine WC.draw 16 rfl (by decide +kernel) ?_ | refine WC.draw 17 rfl (by decide +kernel) ?_ | refine WC.draw 18 rfl (by decide +kernel) ?_ | refine WC.draw 19 rfl (by decide +kernel) ?_ | refine WC.draw 20 rfl (by decide +kernel) ?_ | refine WC.draw 21 rfl (by decide +kernel) ?_ | refine WC.draw 22 rfl (by decide +kernel) ?_ | refine WC.draw 23 rfl (by decide +kernel) ?_ | refine WC.draw 24 rfl (by decide +kernel) ?_)); (repeat (refine WD.cons rfl (fun c h => by cases h) sq_EQB_1 ?_)); refine WD.nil ?_)); (try (refine st ?_; (repeat intro zzc))))); (repeat ((first | (refine iSD rfl ?_; refine WL.sliceData rfl (by assumption) rfl ?_) | ((refine iDraw ?_; (first | refine WC.drawAll rfl (by decide +kernel) ?_ | refine WC.draw 1 rfl (by decide +kernel) ?_ | refine WC.draw 2 rfl (by decide +kernel) ?_ | refine WC.draw 3 rfl (by decide +kernel) ?_ | refine WC.draw 4 rfl (by decide +kernel) ?_ | refine WC.draw 5 rfl (by decide +kernel) ?_ | refine WC.draw 6 rfl (by decide +kernel) ?_ | refine WC.draw 7 rfl (by decide +kernel) ?_ | refine WC.draw 8 rfl (by decide +kernel) ?_ | refine WC.draw 9 rfl (by decide +kernel) ?_ | refine WC.draw 10 rfl (by decide +kernel) ?_ | refine WC.draw 11 rfl (by decide +kernel) ?_ | refine WC.draw 12 rfl (by decide +kernel) ?_ | refine WC.draw 13 rfl (by decide +kernel) ?_ | refine WC.draw 14 rfl (by decide +kernel) ?_ | refine WC.draw 15 rfl (by decide +kernel) ?_ | refine WC.draw 16 rfl (by decide +kernel) ?_ | refine WC.draw 17 rfl (by decide +kernel) ?_ | refine WC.draw 18 rfl (by decide +kernel) ?_ | refine WC.draw 19 rfl (by decide +kernel) ?_ | refine WC.draw 20 rfl (by decide +kernel) ?_ | refine WC.draw 21 rfl (by decide +kernel) ?_ | refine WC.draw 22 rfl (by decide +kernel) ?_ | refine WC.draw 23 rfl (by decide +kernel) ?_ | refine WC.draw 24 rfl (by decide +kernel) ?_)); (repeat (refine WD.cons rfl (fun c h => by cases h) sq_EQB_1 ?_)); refine WD.nil ?_)); (try (refine st ?_; (repeat intro zzc))))); (repeat revert zzc); exact zzn.out) : G := h ⟨next⟩
theorem bString_any {b cap : Nat} {ao a : Option Addr} {t : List UInt8} (hc : a = none ∨ 0 < cap) (hl : t.length ≤ 140737488355328) (w0 : World) (m : Mem) (H : SHeap) :
    Does Tryd.prog 82 #[.pointer (some ⟨b, 0, none⟩)] w0 m (.blk b (.cells [.pointer ao, .slice a t.length cap].toArray 138 (0, 0)) :: .row a cap 5 1 (bCs t) :: H) (Gives (str t) m H) := by
  refine Does.of_body (args := [.pointer (some ⟨b, 0, none⟩)]) Tryd.func82 rfl Tryd.ntmps82 rfl ?_
  have hbl := bCs_length t
  (try (refine st_EQB_1 ?_; intros))
  refine WC.drawE 11 ([.blk b (.cells [.pointer ao, .slice a t.length cap].toArray 138 (0, 0))]) (.row a cap 5 1 (bCs t) :: H) rfl (by decide +kernel) zpk ?_
  (refine cm_EQB_1 ?_)
  refine WE.act1 10 (by decide +kernel) rfl rfl (fun c h => by cases h) ?_
  refine WL.strRow (s := t) rfl rfl (by (repeat (first | exact Out.here | apply Out.there))) rfl (by kernel_rfl) (by omega) rfl ?_
  (try (refine st_EQB_1 ?_; intros))
  refine WQ.acted (B := []) (U := H) rfl (Mem.le.refl _) zpk ?_
  refine WE.done (by decide +kernel) ?_
  (try (refine st_EQB_1 ?_; intros))
  exact q_fin0 (H0 := H) (Gives.mk rfl) (hd := zpk)
theorem sq_EQB_2 {G : Prop} (h : G := by (repeat (first | (refine sp ?_; (repeat intro zzc)) | (refine iConv rfl ?_; refine WL.convu32 rfl rfl rfl rfl (by omega) ?_) | (refine WL.orAnd rfl rfl rfl (by omega) ?_) | (refine iConv rfl ?_; refine WL.convu32 rfl rfl rfl rfl (by omega) ?_) | (refine WL.orAnd rfl rfl rfl (by omega) ?_))); exact WQ.q1 rfl) : G := h
theorem st_EQB_2 {G G' : Prop} (next : G') (h : Bx G' → G := by intro zzn; (first | ((refine st ?_; (repeat intro zzc)); (try ((first | (refine iConv rfl ?_; refine WL.convu32 rfl rfl rfl rfl (by omega) ?_) | (refine WL.orAnd rfl rfl rfl (by omega) ?_) | (refine iConv rfl ?_; refine WL.convu32 rfl rfl rfl rfl (by omega) ?_) | (refine WL.orAnd rfl rfl rfl (by omega) ?_) | ((refine iDraw ?_; (first | refine WC.drawAll rfl (by decide +kernel) ?_ | refine WC.draw 1 rfl (by decide +kernel) ?_ | refine WC.draw 2 rfl (by decide +kernel) ?_ | refine WC.draw 3 rfl (by decide +kernel) ?_ | refine WC.draw 4 rfl (by decide +kernel) ?_ | refine WC.draw 5 rfl (by decide +kernel) ?_ | refine WC.draw 6 rfl (by decide +kernel) ?_ | refine WC.draw 7 rfl (by decide +kernel) ?_ | refine WC.draw 8 rfl (by decide +kernel) ?_ | refine WC.draw 9 rfl (by decide +kernel) ?_ | refine WC.draw 10 rfl (by decide +kernel) ?_ | refine WC.draw 11 rfl (by decide +kernel) ?_ | refine WC.draw 12 rfl (by decide +kernel) ?_ | refine WC.draw 13 rfl (by decide +kernel) ?_ | refine WC.draw 14 rfl (by decide +kernel) ?_ | refine WC.draw 15 rfl (by decide +kernel) ?_ | refine WC.draw 16 rfl (by decide +kernel) ?_ | refine WC.draw 17 rfl (by decide +kernel) ?_ | refine WC.draw 18 rfl (by decide +kernel) ?_ | refine WC.draw 19 rfl (by decide +kernel) ?_ | refine WC.draw 20 rfl (by decide +kernel) ?_ | refine WC.draw 21 rfl (by decide +kernel) ?_ | refine WC.draw 22 rfl (by decide +kernel) ?_ | refine WC.draw 23 rfl (by decide +kernel) ?_ | refine WC.draw 24 rfl (by decide +kernel) ?_)); (repeat (refine WD.cons rfl (fun c h => by cases h) sq_EQB_2 ?_)); refine WD.nil ?_)); (try (refine st ?_; (repeat intro zzc)))))) | ((first | (refine iConv rfl ?_; refine WL.convu32 rfl rfl rfl rfl (by omega) ?_) | (refine WL.orAnd rfl rfl rfl (by omega) ?_) | (refine iConv rfl ?_; refine WL.convu32 rfl rfl rfl rfl (by omega) ?_) | (refine WL.orAnd rfl rfl rfl (by omega) ?_) | ((refine iDraw ?_; (first | refine WC.drawAll rfl (by decide +kernel) ?_ | refine WC.draw 1 rfl (by decide +kernel) ?_ | refine WC.draw 2 rfl (by decide +kernel) ?_ | refine WC.draw 3 rfl (by decide +kernel) ?_ | refine WC.draw 4 rfl (by decide +kernel) ?_ | refine WC.draw 5 rfl (by decide +kernel) ?_ | refine WC.draw 6 rfl (by decide +kernel) ?_ | refine WC.draw 7 rfl (by decide +kernel) ?_ | refine WC.draw 8 rfl (by decide +kernel) ?_ | refine WC.draw 9 rfl (by decide +kernel) ?_ | refine WC.draw 10 rfl (by decide +kernel) ?_ | refine WC.draw 11 rfl (by decide +kernel) ?_ | refine WC.draw 12 rfl (by decide +kernel) ?_ | refine WC.draw 13 rfl (by decide +kernel) ?_ | refine WC.draw 14 rfl (by decide +kernel) ?_ | refine WC.draw 15 rfl (by decide +kernel) ?_ | refine WC.draw 16 rfl (by decide +kernel) ?_ | refine WC.draw 17 rfl (by decide +kernel) ?_ | refine WC.draw 18 rfl (by decide +kernel) ?_ | refine WC.draw 19 rfl (by decide +kernel) ?_ | refine WC.draw 20 rfl (by decide +kernel) ?_ | refine WC.draw 21 rfl (by decide +kernel) ?_ | refine WC.draw 22 rfl (by decide +kernel) ?_ | refine WC.draw 23 rfl (by decide +kernel) ?_ | refine WC.draw 24 rfl (by decide +kernel) ?_)); (repeat (refine WD.cons rfl (fun c h => by cases h) sq_EQB_2 ?_)); refine WD.nil ?_)); (try (refine st ?_; (repeat intro zzc))))); (repeat ((first | (refine iConv rfl ?_; refine WL.convu32 rfl rfl rfl rfl (by omega) ?_) | (refine WL.orAnd rfl rfl rfl (by omega) ?_) | (refine iConv rfl ?_; refine WL.convu32 rfl rfl rfl rfl (by omega) ?_) | (refine WL.orAnd rfl rfl rfl (by omega) ?_) | ((refine iDraw ?_; (first | refine WC.drawAll rfl (by decide +kernel) ?_ | refine WC.draw 1 rfl (by decide +kernel) ?_ | refine WC.draw 2 rfl (by decide +kernel) ?_ | refine WC.draw 3 rfl (by decide +kernel) ?_ | refine WC.draw 4 rfl (by decide +kernel) ?_ | refine WC.draw 5 rfl (by decide +kernel) ?_ | refine WC.draw 6 rfl (by decide +kernel) ?_ | refine WC.draw 7 rfl (by decide +kernel) ?_ | refine WC.draw 8 rfl (by decide +kernel) ?_ | refine WC.draw 9 rfl (by decide +kernel) ?_ | refine WC.draw 10 rfl (by decide +kernel) ?_ | refine WC.draw 11 rfl (by decide +kernel) ?_ | refine WC.draw 12 rfl (by decide +kernel) ?_ | refine WC.draw 13 rfl (by decide +kernel) ?_ | refine WC.draw 14 rfl (by decide +kernel) ?_ | refine WC.draw 15 rfl (by decide +kernel) ?_ | refine WC.draw 16 rfl (by decide +kernel) ?_ | refine WC.draw 17 rfl (by decide +kernel) ?_ | refine WC.draw 18 rfl (by decide +kernel) ?_ | refine WC.draw 19 rfl (by decide +kernel) ?_ | refine WC.draw 20 rfl (by decide +kernel) ?_ | refine WC.draw 21 rfl (by decide +kernel) ?_ | refine WC.draw 22 rfl (by decide +kernel) ?_ | refine WC.draw 23 rfl (by decide +kernel) ?_ | refine WC.draw 24 rfl (by decide +kernel) ?_)); (repeat (refine WD.cons rfl (fun c h => by cases h) sq_EQB_2 ?_)); refine WD.nil ?_)); (try (refine st ?_; (repeat intro zzc))))); (repeat revert zzc); exact zzn.out) : G := h ⟨next⟩
theorem bCs_app (s t : List UInt8) : bCs s ++ bCs t = bCs (s ++ t) := by simp [bCs]
theorem bCs_ok (s : List UInt8) : ∀ q ∈ bCs s, q.all okCell = true := fun q hq => by
  obtain ⟨c, _, rfl⟩ := List.mem_map.1 hq; rfl
theorem bCs_one (s : List UInt8) : ∀ q ∈ bCs s, q.length = 1 := fun q hq => by
  obtain ⟨c, _, rfl⟩ := List.mem_map.1 hq; rfl
theorem appendNon_any {a : Option Addr} {cap : Nat} {t : List UInt8} (c : Nat) (hc : okr c) (h128 : 128 ≤ c) (hl : t.length ≤ 16777216) (w0 : World) (m : Mem) (H : SHeap) :
    Does Tryd.prog 109 #[.slice a t.length cap, .int .i32 (c : Int)] w0 m (.row a cap 5 1 (bCs t) :: H) (fun v m' H' => m' = m ∧ ∃ a2 cap2, v = .slice a2 (t ++ fmb c).length cap2 ∧ H' = .row a2 cap2 5 1 (bCs (t ++ fmb c)) :: H) := by
  refine Does.of_body (args := [.slice a t.length cap, .int .i32 (c : Int)]) Tryd.func109 rfl Tryd.ntmps109 rfl ?_
  have hbl := bCs_length t
  have hbf := bCs_length (fmb c)
  have hfl := fmb_length c
  have hwd := wd_pos c
  have hc1 := okr_le hc
  have hc2 : c < 55296 ∨ 57343 < c := by unfold okr at hc; omega
  by_cases h1 : c ≤ 2047
  · have hr := rune2 h128 h1
    have hw : wd c = 2 := by unfold wd; rw [if_neg (by omega), if_pos (by omega)]
    (refine st_EQB_2 ?_; intros; rename_i b)
    refine WL.appendR (es := bCs t) (es' := bCs (fmb c)) (by' := 1) rfl rfl rfl rfl (by (repeat (first | exact Out.here | apply Out.there))) (rowR_blk (T := 5) (fz := (0, 0)) (L := [.int .u8 ((Int.toNat 192 ||| ((c : Int) / 2 ^ 6 % 256).toNat : Nat) : Int), .int .u8 (128 + (c : Int) % 256 % 64)]) zhs (by rw [← hr]; rfl) (bCs_one _)) (bCs_ok _) (bCs_one _) rfl rfl rfl rfl hbl.symm (by rw [hbf, hfl, hw]) (by rw [hbl, hbf]; omega) (by omega) rfl ?_
    intro a2 cap2
    rw [bCs_app, hbl, hbf, ← List.length_append]
    (try (refine st_EQB_2 ?_; intros))
    exact q_fin0 (H0 := .row a2 cap2 5 1 (bCs (t ++ fmb c)) :: H) ⟨rfl, a2, cap2, rfl, rfl⟩ (hd := zpk)
  by_cases h2 : c ≤ 65535
  · have hr := rune3 (c := c) (by omega) h2
    have hw : wd c = 3 := by unfold wd; rw [if_neg (by omega), if_neg (by omega), if_pos (by omega)]
    rcases hc2 with h3 | h3
    all_goals
      (refine st_EQB_2 ?_; intros; rename_i b)
      refine WL.appendR (es := bCs t) (es' := bCs (fmb c)) (by' := 1) rfl rfl rfl rfl (by (repeat (first | exact Out.here | apply Out.there))) (rowR_blk (T := 5) (fz := (0, 0)) (L := [.int .u8 ((Int.toNat 224 ||| ((c : Int) / 2 ^ 12 % 256).toNat : Nat) : Int), .int .u8 (128 + (c : Int) / 2 ^ 6 % 256 % 64), .int .u8 (128 + (c : Int) % 256 % 64)]) zhs (by rw [← hr]; rfl) (bCs_one _)) (bCs_ok _) (bCs_one _) rfl rfl rfl rfl hbl.symm (by rw [hbf, hfl, hw]) (by rw [hbl, hbf]; omega) (by omega) rfl ?_
      intro a2 cap2
      rw [bCs_app, hbl, hbf, ← List.length_append]
      (try (refine st_EQB_2 ?_; intros))
      exact q_fin0 (H0 := .row a2 cap2 5 1 (bCs (t ++ fmb c)) :: H) ⟨rfl, a2, cap2, rfl, rfl⟩ (hd := zpk)
  · have hr := rune4 (c := c) (by omega) hc1
    have hw : wd c = 4 := by unfold wd; rw [if_neg (by omega), if_neg (by omega), if_neg (by omega)]
    rcases hc2 with h3 | h3
    · exfalso; omega
    · (refine st_EQB_2 ?_; intros; rename_i b)
      refine WL.appendR (es := bCs t) (es' := bCs (fmb c)) (by' := 1) rfl rfl rfl rfl (by (repeat (first | exact Out.here | apply Out.there))) (rowR_blk (T := 5) (fz := (0, 0)) (L := [.int .u8 ((Int.toNat 240 ||| ((c : Int) / 2 ^ 18 % 256).toNat : Nat) : Int), .int .u8 (128 + (c : Int) / 2 ^ 12 % 256 % 64), .int .u8 (128 + (c : Int) / 2 ^ 6 % 256 % 64), .int .u8 (128 + (c : Int) % 256 % 64)]) zhs (by rw [← hr]; rfl) (bCs_one _)) (bCs_ok _) (bCs_one _) rfl rfl rfl rfl hbl.symm (by rw [hbf, hfl, hw]) (by rw [hbl, hbf]; omega) (by omega) rfl ?_
      intro a2 cap2
      rw [bCs_app, hbl, hbf, ← List.length_append]
      (try (refine st_EQB_2 ?_; intros))
      exact q_fin0 (H0 := .row a2 cap2 5 1 (bCs (t ++ fmb c)) :: H) ⟨rfl, a2, cap2, rfl, rfl⟩ (hd := zpk)
theorem appendRune_any {a : Option Addr} {cap : Nat} {t : List UInt8} (c : Nat) (hc : okr c) (hl : t.length ≤ 16777216) (w0 : World) (m : Mem) (H : SHeap) :
    Does Tryd.prog 94 #[.slice a t.length cap, .int .i32 (c : Int)] w0 m (.row a cap 5 1 (bCs t) :: H) (fun v m' H' => m' = m ∧ ∃ a2 cap2, v = .slice a2 (t ++ fmb c).length cap2 ∧ H' = .row a2 cap2 5 1 (bCs (t ++ fmb c)) :: H) := by
  refine Does.of_body (args := [.slice a t.length cap, .int .i32 (c : Int)]) Tryd.func94 rfl Tryd.ntmps94 rfl ?_
  have hbl := bCs_length t
  have hbf := bCs_length (fmb c)
  have hfl := fmb_length c
  have hc1 := okr_le hc
  by_cases h1 : c ≤ 127
  · have hr := rune1 h1
    have hw : wd c = 1 := by unfold wd; rw [if_pos (by omega)]
    (refine st_EQB_2 ?_; intros; rename_i b a2 cap2)
    rw [hr, bCs_app, hbl, show t.length + 1 = (t ++ fmb c).length by rw [List.length_append, hfl, hw]]
    exact q_fin0 (H0 := .row a2 cap2 5 1 (bCs (t ++ fmb c)) :: H) ⟨rfl, a2, cap2, rfl, rfl⟩ (hd := zpk)
  · (try (refine st_EQB_2 ?_; intros))
    refine w_callF Tryd.func109 ?_ (hs := appendNon_any c hc (by omega) hl _ _ _)
    rintro v m H1 ⟨rfl, a2, cap2, rfl, rfl⟩
    (try (refine st_EQB_2 ?_; intros))
    exact q_fin0 (H0 := .row a2 cap2 5 1 (bCs (t ++ fmb c)) :: H) ⟨rfl, a2, cap2, rfl, rfl⟩ (hd := zpk)
theorem writeRune_any {b cap : Nat} {ao a : Option Addr} {t : List UInt8} (c : Nat) (hc : okr c) (hao : ao = none ∨ ao = some ⟨b, 0, none⟩) (hl : t.length ≤ 16777216) (w0 : World) (m : Mem) (H : SHeap) :
    Does Tryd.prog 80 #[.pointer (some ⟨b, 0, none⟩), .int .i32 (c : Int)] w0 m (.blk b (.cells [.pointer ao, .slice a t.length cap].toArray 138 (0, 0)) :: .row a cap 5 1 (bCs t) :: H)
      (fun v m' H' => m' = m ∧ Bldr b (t ++ fmb c) H H') := by
  refine Does.of_body (args := [.pointer (some ⟨b, 0, none⟩), .int .i32 (c : Int)]) Tryd.func80 rfl Tryd.ntmps80 rfl ?_
  have hfl := fmb_length c
  have hwd := wd_pos c
  (try (refine st_EQB_2 ?_; intros))
  refine w_callF Tryd.func92 ?_ (hs := copyCheck_any hao _ _ _)
  rintro v m H1 ⟨rfl, rfl⟩
  (try (refine st_EQB_2 ?_; intros))
  refine WL.heap (H' := .row a cap 5 1 (bCs t) :: .blk b (.cells [.pointer (some ⟨b, 0, none⟩), .slice a t.length cap].toArray 138 (0, 0)) :: H) zpk ?_
  refine w_callF Tryd.func94 ?_ (hs := appendRune_any c hc hl _ _ _)
  rintro v m H1 ⟨rfl, a2, cap2, rfl, rfl⟩
  have hbl2 := bCs_length (t ++ fmb c)
  have htl : (t ++ fmb c).length = t.length + wd c := by rw [List.length_append, hfl]
  refine WL.rowCap (a := a2) zhs fun hcap => ?_
  (try (refine st_EQB_2 ?_; intros))
  exact q_fin0 (H0 := .blk b (.cells [.pointer (some ⟨b, 0, none⟩), .slice a2 (t ++ fmb c).length cap2].toArray 138 (0, 0)) :: .row a2 cap2 5 1 (bCs (t ++ fmb c)) :: H) ⟨rfl, some ⟨b, 0, none⟩, a2, cap2, .inr rfl, .inr (by omega), rfl⟩ (hd := zpk)
theorem sq_EQB_3 {G : Prop} (h : G := by (repeat (first | (refine sp ?_; (repeat intro zzc)))); exact WQ.q1 rfl) : G := h
theorem st_EQB_3 {G G' : Prop} (next : G') (h : Bx G' → G := by intro zzn; (first | ((refine st ?_; (repeat intro zzc)); (try ((first | ((refine iDraw ?_; (first | refine WC.drawAll rfl (by decide +kernel) ?_ | refine WC.draw 1 rfl (by decide +kernel) ?_ | refine WC.draw 2 rfl (by decide +kernel) ?_ | refine WC.draw 3 rfl (by decide +kernel) ?_ | refine WC.draw 4 rfl (by decide +kernel) ?_ | refine WC.draw 5 rfl (by decide +kernel) ?_ | refine WC.draw 6 rfl (by decide +kernel) ?_ | refine WC.draw 7 rfl (by decide +kernel) ?_ | refine WC.draw 8 rfl (by decide +kernel) ?_ | refine WC.draw 9 rfl (by decide +kernel) ?_ | refine WC.draw 10 rfl (by decide +kernel) ?_ | refine WC.draw 11 rfl (by decide +kernel) ?_ | refine WC.draw 12 rfl (by decide +kernel) ?_ | refine WC.draw 13 rfl (by decide +kernel) ?_ | refine WC.draw 14 rfl (by decide +kernel) ?_ | refine WC.draw 15 rfl (by decide +kernel) ?_ | refine WC.draw 16 rfl (by decide +kernel) ?_ | refine WC.draw 17 rfl (by decide +kernel) ?_ | refine WC.draw 18 rfl (by decide +kernel) ?_ | refine WC.draw 19 rfl (by decide +kernel) ?_ | refine WC.draw 20 rfl (by decide +kernel) ?_ | refine WC.draw 21 rfl (by decide +kernel) ?_ | refine WC.draw 22 rfl (by decide +kernel) ?_ | refine WC.draw 23 rfl (by decide +kernel) ?_ | refine WC.draw 24 rfl (by decide +kernel) ?_)); (repeat (refine WD.cons rfl (fun c h => by cases h) sq_EQB_3 ?_)); refine WD.nil ?_)); (try (refine st ?_; (repeat intro zzc)))))) | ((first | ((refine iDraw ?_; (first | refine WC.drawAll rfl (by decide +kernel) ?_ | refine WC.draw 1 rfl (by decide +kernel) ?_ | refine WC.draw 2 rfl (by decide +kernel) ?_ | refine WC.draw 3 rfl (by decide +kernel) ?_ | refine WC.draw 4 rfl (by decide +kernel) ?_ | refine WC.draw 5 rfl (by decide +kernel) ?_ | refine WC.draw 6 rfl (by decide +kernel) ?_ | refine WC.draw 7 rfl (by decide +kernel) ?_ | refine WC.draw 8 rfl (by decide +kernel) ?_ | refine WC.draw 9 rfl (by decide +kernel) ?_ | refine WC.draw 10 rfl (by decide +kernel) ?_ | refine WC.draw 11 rfl (by decide +kernel) ?_ | refine WC.draw 12 rfl (by decide +kernel) ?_ | refine WC.draw 13 rfl (by decide +kernel) ?_ | refine WC.draw 14 rfl (by decide +kernel) ?_ | refine WC.draw 15 rfl (by decide +kernel) ?_ | refine WC.draw 16 rfl (by decide +kernel) ?_ | refine WC.draw 17 rfl (by decide +kernel) ?_ | refine WC.draw 18 rfl (by decide +kernel) ?_ | refine WC.draw 19 rfl (by decide +kernel) ?_ | refine WC.draw 20 rfl (by decide +kernel) ?_ | refine WC.draw 21 rfl (by decide +kernel) ?_ | refine WC.draw 22 rfl (by decide +kernel) ?_ | refine WC.draw 23 rfl (by decide +kernel) ?_ | refine WC.draw 24 rfl (by decide +kernel) ?_)); (repeat (refine WD.cons rfl (fun c h => by cases h) sq_EQB_3 ?_)); refine WD.nil ?_)); (try (refine st ?_; (repeat intro zzc))))); (repeat ((first | ((refine iDraw ?_; (first | refine WC.drawAll rfl (by decide +kernel) ?_ | refine WC.draw 1 rfl (by decide +kernel) ?_ | refine WC.draw 2 rfl (by decide +kernel) ?_ | refine WC.draw 3 rfl (by decide +kernel) ?_ | refine WC.draw 4 rfl (by decide +kernel) ?_ | refine WC.draw 5 rfl (by decide +kernel) ?_ | refine WC.draw 6 rfl (by decide +kernel) ?_ | refine WC.draw 7 rfl (by decide +kernel) ?_ | refine WC.draw 8 rfl (by decide +kernel) ?_ | refine WC.draw 9 rfl (by decide +kernel) ?_ | refine WC.draw 10 rfl (by decide +kernel) ?_ | refine WC.draw 11 rfl (by decide +kernel) ?_ | refine WC.draw 12 rfl (by decide +kernel) ?_ | refine WC.draw 13 rfl (by decide +kernel) ?_ | refine WC.draw 14 rfl (by decide +kernel) ?_ | refine WC.draw 15 rfl (by decide +kernel) ?_ | refine WC.draw 16 rfl (by decide +kernel) ?_ | refine WC.draw 17 rfl (by decide +kernel) ?_ | refine WC.draw 18 rfl (by decide +kernel) ?_ | refine WC.draw 19 rfl (by decide +kernel) ?_ | refine WC.draw 20 rfl (by decide +kernel) ?_ | refine WC.draw 21 rfl (by decide +kernel) ?_ | refine WC.draw 22 rfl (by decide +kernel) ?_ | refine WC.draw 23 rfl (by decide +kernel) ?_ | refine WC.draw 24 rfl (by decide +kernel) ?_)); (repeat (refine WD.cons rfl (fun c h => by cases h) sq_EQB_3 ?_)); refine WD.nil ?_)); (try (refine st ?_; (repeat intro zzc))))); (repeat revert zzc); exact zzn.out) : G := h ⟨next⟩
theorem writeByte_any {b cap : Nat} {ao a : Option Addr} {t : List UInt8} (c : UInt8) (hao : ao = none ∨ ao = some ⟨b, 0, none⟩) (hc : a = none ∨ 0 < cap) (hl : t.length ≤ 16777216) (w0 : World) (m : Mem) (H : SHeap) :
    Does Tryd.prog 77 #[.pointer (some ⟨b, 0, none⟩), .int .u8 (c.toNat : Int)] w0 m (.blk b (.cells [.pointer ao, .slice a t.length cap].toArray 138 (0, 0)) :: .row a cap 5 1 (bCs t) :: H) (fun v m' H' => m' = m ∧ v = .nilIface ∧ Bldr b (t ++ [c]) H H') := by
  refine Does.of_body (args := [.pointer (some ⟨b, 0, none⟩), .int .u8 (c.toNat : Int)]) Tryd.func77 rfl Tryd.ntmps77 rfl ?_
  have hbl := bCs_length t
  have hbl2 := bCs_length (t ++ [c])
  have e : bCs t ++ [[Value.int .u8 (c.toNat : Int)]] = bCs (t ++ [c]) := by simp [bCs]
  have el : (bCs t).length + 1 = (t ++ [c]).length := by rw [hbl]; simp
  have hbl3 : (t ++ [c]).length = t.length + 1 := by simp
  (try (refine st_EQB_3 ?_; intros))
  refine w_callF Tryd.func92 ?_ (hs := copyCheck_any hao _ _ _)
  rintro v m H1 ⟨rfl, rfl⟩
  (refine st_EQB_3 ?_; intros; rename_i q a2 cap2)
  rw [e, el]
  refine WQ.rowCap (a := a2) zhs fun hcap => ?_
  exact q_fin0 (H0 := .blk b (.cells [.pointer (some ⟨b, 0, none⟩), .slice a2 (t ++ [c]).length cap2].toArray 138 (0, 0)) :: .row a2 cap2 5 1 (bCs (t ++ [c])) :: H) ⟨rfl, rfl, some ⟨b, 0, none⟩, a2, cap2, .inr rfl, .inr (by omega), rfl⟩ (hd := zpk)
end Go.Proofs.YtelgegefmjlimaaDoor

/-
  The walk of edit.quoted. No condition.
-/
namespace Go.Eng
open Go
theorem broken_prefix {s : List UInt8} {k : Nat} (hk : k < s.length) : (readP s k).b = true ↔ (readP s k).r = 65533 ∧ Lib.hasPrefix (s.drop k) [239, 191, 189] = false := by
  have hp : Lib.hasPrefix (s.drop k) [239, 191, 189] = true ↔ begins (s.drop k) 65533 := by
    unfold Lib.hasPrefix
    rw [List.isPrefixOf_iff_prefix, List.prefix_iff_eq_take, begins_iff _ _ (by decide)]
    rw [show wd 65533 = 3 by decide, show fmb 65533 = [239, 191, 189] by decide]
    exact eq_comm
  have hok : okr 65533 := by right; decide
  unfold readP
  split
  · rename_i h
    simp only [true_and, true_iff]
    cases h2 : Lib.hasPrefix (s.drop k) [239, 191, 189] with
    | false => rfl
    | true =>
      have := dl_of_begins hok (hp.1 h2)
      rw [this] at h
      exact absurd h (by decide)
  · rename_i h
    constructor
    · intro h2; cases h2
    · rintro ⟨h1, h2⟩
      exfalso
      rcases dl_cases (s.drop k) (by simp; omega) with ⟨_, _, h3⟩ | ⟨h3, _⟩
      · simp only at h1
        rw [h1] at h3
        rw [hp.2 h3] at h2
        cases h2
      · exact h h3
theorem hexs_cut {n : Nat} (h : n < 16) : (hexs.take (n + 1)).drop n = [hexB n] := by
  have all : ∀ i : Fin 16, (hexs.take (i.1 + 1)).drop i.1 = [hexB i.1] := by decide
  exact all ⟨n, h⟩
end Go.Eng
namespace Go.Proofs.YtelgegefmjlimaaDoor
open Go Go.Eng
set_option maxRecDepth 100000
set_option maxHeartbeats 4000000
set_option linter.all false
attribute [local irreducible] WL WC WQ QFun QLoop Does Q1 QRound QAssign Go.Addr.add
attribute [local irreducible] readP pieces dl from_ pieceW piecesW Utf8.encode
theorem sq_EQ2_1 {G : Prop} (h : G := by (repeat (first | (refine sp ?_; (repeat intro zzc)) | (refine iF 78 rfl ?_; refine w_callG Tryd.func78 ?_ (hs := hasPrefix_any _ _ _)) | (refine iF 81 rfl ?_; refine w_callG Tryd.func81 ?_ (hs := formatInt_any _ (by assumption) (by assumption))))); exact WQ.q1 rfl) : G := h
theorem cm_EQ2_1 {G G' : Prop} (next : G') (h : Bx G' → G := by intro zzn; (try (refine wcal 0 ?_ (hwl := by intro zm zF zle; exact sq_EQ2_1))); (try (refine wcal 1 ?_ (hwl := by intro zm zF zle; exact sq_EQ2_1))); (try (refine wcal 2 ?_ (hwl := by intro zm zF zle; exact sq_EQ2_1))); (try (refine wcal 3 ?_ (hwl := by intro zm zF zle; exact sq_EQ2_1))); (try (refine wcal 4 ?_ (hwl := by intro zm zF zle; exact sq_EQ2_1))); (try (refine wcal 5 ?_ (hwl := by intro zm zF zle; exact sq_EQ2_1))); (try (refine wcal 6 ?_ (hwl := by intro zm zF zle; exact sq_EQ2_1))); (try (refine wcal 7 ?_ (hwl := by intro zm zF zle; exact sq_EQ2_1))); (try (refine wcal 8 ?_ (hwl := by intro zm zF zle; exact sq_EQ2_1))); (try (refine wcal 9 ?_ (hwl := by intro zm zF zle; exact sq_EQ2_1))); (try (refine wcal 10 ?_ (hwl := by intro zm zF zle; exact sq_EQ2_1))); (try (refine wcal 11 ?_ (hwl := by intro zm zF zle; exact sq_EQ2_1))); (try (refine wcal 12 ?_ (hwl := by intro zm zF zle; exact sq_EQ2_1))); (try (refine wcal 13 ?_ (hwl := by intro zm zF zle; exact sq_EQ2_1))); (try (refine wcal 14 ?_ (hwl := by intro zm zF zle; exact sq_EQ2_1))); (try (refine wcal 15 ?_ (hwl := by intro zm zF zle; exact sq_EQ2_1))); (try (refine wcal 16 ?_ (hwl := by intro zm zF zle; exact sq_EQ2_1))); (try (refine wcal 17 ?_ (hwl := by intro zm zF zle; exact sq_EQ2_1))); (try (refine wcal 18 ?_ (hwl := by intro zm zF zle; exact sq_EQ2_1))); (try (refine wcal 19 ?_ (hwl := by intro zm zF zle; exact sq_EQ2_1))); (try (refine wcal 20 ?_ (hwl := by intro zm zF zle; exact sq_EQ2_1))); (try (refine wcal 21 ?_ (hwl := by intro zm zF zle; exact sq_EQ2_1))); (try (refine wcal 22 ?_ (hwl := by intro zm zF zle; exact sq_EQ2_1))); (try (refine wcal 23 ?_ (hwl := by intro zm zF zle; exact sq_EQ2_1))); (try (refine wcal 24 ?_ (hwl := by intro zm zF zle; exact sq_EQ2_1))); (try (refine wcal 25 ?_ (hwl := by intro zm zF zle; exact sq_EQ2_1))); (try (refine wcal 26 ?_ (hwl := by intro zm zF zle; exact sq_EQ2_1))); (try (refine wcal 27 ?_ (hwl := by intro zm zF zle; exact sq_EQ2_1))); (try (refine wcal 28 ?_ (hwl := by intro zm zF zle; exact sq_EQ2_1))); (try (refine wcal 29 ?_ (hwl := by intro zm zF zle; exact sq_EQ2_1))); (try (refine wcal 30 ?_ (hwl := by intro zm zF zle; exact sq_EQ2_1))); (try (refine wcal 31 ?_ (hwl := by intro zm zF zle; exact sq_EQ2_1))); (try (refine wcal 32 ?_ (hwl := by intro zm zF zle; exact sq_EQ2_1))); (try (refine wcal 33 ?_ (hwl := by intro zm zF zle; exact sq_EQ2_1))); (try (refine wcal 34 ?_ (hwl := by intro zm zF zle; exact sq_EQ2_1))); (try (refine wcal 35 ?_ (hwl := by intro zm zF zle; exact sq_EQ2_1))); (try (refine wcal 36 ?_ (hwl := by intro zm zF zle; exact sq_EQ2_1))); (try (refine wcal 37 ?_ (hwl := by intro zm zF zle; exact sq_EQ2_1))); (try (refine wcal 38 ?_ (hwl := by intro zm zF zle; exact sq_EQ2_1))); (try (refine wcal 39 ?_ (hwl := by intro zm zF zle; exact sq_EQ2_1))); (try (refine wcal 40 ?_ (hwl := by intro zm zF zle; exact sq_EQ2_1))); (try (refine wcal 41 ?_ (hwl := by intro zm zF zle; exact sq_EQ2_1))); exact zzn.out) : G := h ⟨next⟩
theorem st_EQ2_1 {G G' : Prop} (next : G') (h : Bx G' → G := by intro zzn; (first | ((refine st ?_; (repeat intro zzc)); (try ((first | (refine iF 78 rfl ?_; refine w_callG Tryd.func78 ?_ (hs := hasPrefix_any _ _ _)) | (refine iF 81 rfl ?_; refine w_callG Tryd.func81 ?_ (hs := formatInt_any _ (by assumption) (by assumption))) | ((refine iDraw ?_; (first | refine WC.drawAll rfl (by decide +kernel) ?_ | refine WC.draw 1 rfl (by decide +kernel) ?_ | refine WC.draw 2 rfl (by decide +kernel) ?_ | refine WC.draw 3 rfl (by decide +kernel) ?_ | refine WC.draw 4 rfl (by decide +kernel) ?_ | refine WC.draw 5 rfl (by decide +kernel) ?_ | refine WC.draw 6 rfl (by decide +kernel) ?_ | refine WC.draw 7 rfl (by decide +kernel) ?_ | refine WC.draw 8 rfl (by decide +kernel) ?_ | refine WC.draw 9 rfl (by decide +kernel) ?_ | refine WC.draw 10 rfl (by decide +kernel) ?_ | refine WC.draw 11 rfl (by decide +kernel) ?_ | refine WC.draw 12 rfl (by decide +kernel) ?_ | refine WC.draw 13 rfl (by decide +kernel) ?_ | refine WC.draw 14 rfl (by decide +kernel) ?_ | refine WC.draw 15 rfl (by decide +kernel) ?_ | refine WC.draw 16 rfl (by decide +kernel) ?_ | refine WC.draw 17 rfl (by decide +kernel) ?_ | refine WC.draw 18 rfl (by decide +kernel) ?_ | refine WC.draw 19 rfl (by decide +kernel) ?_ | refine WC.draw 20 rfl (by decide +kernel) ?_ | refine WC.draw 21 rfl (by decide +kernel) ?_ | refine WC.draw 22 rfl (by decide +kernel) ?_ | refine WC.draw 23 rfl (by decide +kernel) ?_ | refine WC.draw 24 rfl (by decide +kernel) ?_)); (repeat (refine WD.cons rfl (fun c h => by cases h) sq_EQ2_1 ?_)); refine WD.nil ?_)); (try (refine st ?_; (repeat intro zzc)))))) | ((first | (refine iF 78 rfl ?_; refine w_callG Tryd.func78 ?_ (hs := hasPrefix_any _ _ _)) | (refine iF 81 rfl ?_; refine w_callG Tryd.func81 ?_ (hs := formatInt_any _ (by assumption) (by assumption))) | ((refine iDraw ?_; (first | refine WC.drawAll rfl (by decide +kernel) ?_ | refine WC.draw 1 rfl (by decide +kernel) ?_ | refine WC.draw 2 rfl (by decide +kernel) ?_ | refine WC.draw 3 rfl (by decide +kernel) ?_ | refine WC.draw 4 rfl (by decide +kernel) ?_ | refine WC.draw 5 rfl (by decide +kernel) ?_ | refine WC.draw 6 rfl (by decide +kernel) ?_ | refine WC.draw 7 rfl (by decide +kernel) ?_ | refine WC.draw 8 rfl (by decide +kernel) ?_ | refine WC.draw 9 rfl (by decide +kernel) ?_ | refine WC.draw 10 rfl (by decide +kernel) ?_ | refine WC.draw 11 rfl (by decide +kernel) ?_ | refine WC.draw 12 rfl (by decide +kernel) ?_ | refine WC.draw 13 rfl (by decide +kernel) ?_ | refine WC.draw 14 rfl (by decide +kernel) ?_ | refine WC.draw 15 rfl (by decide +kernel) ?_ | refine WC.draw 16 rfl (by decide +kernel) ?_ | refine WC.draw 17 rfl (by decide +kernel) ?_ | refine WC.draw 18 rfl (by decide +kernel) ?_ | refine WC.draw 19 rfl (by decide +kernel) ?_ | refine WC.draw 20 rfl (by decide +kernel) ?_ | refine WC.draw 21 rfl (by decide +kernel) ?_ | refine WC.draw 22 rfl (by decide +kernel) ?_ | refine WC.draw 23 rfl (by decide +kernel) ?_ | refine WC.draw 24 rfl (by decide +kernel) ?_)); (repeat (refine WD.cons rfl (fun c h => by cases h) sq_EQ2_1 ?_)); refine WD.nil ?_)); (try (refine st ?_; (repeat intro zzc))))); (repeat ((first | (refine iF 78 rfl ?_; refine w_callG Tryd.func78 ?_ (hs := hasPrefix_any _ _ _)) | (refine iF 81 rfl ?_; refine w_callG Tryd.func81 ?_ (hs := formatInt_any _ (by assumption) (by assumption))) | ((refine iDraw ?_; (first | refine WC.drawAll rfl (by decide +kernel) ?_ | refine WC.draw 1 rfl (by decide +kernel) ?_ | refine WC.draw 2 rfl (by decide +kernel) ?_ | refine WC.draw 3 rfl (by decide +kernel) ?_ | refine WC.draw 4 rfl (by decide +kernel) ?_ | refine WC.draw 5 rfl (by decide +kernel) ?_ | refine WC.draw 6 rfl (by decide +kernel) ?_ | refine WC.draw 7 rfl (by decide +kernel) ?_ | refine WC.draw 8 rfl (by decide +kernel) ?_ | refine WC.draw 9 rfl (by decide +kernel) ?_ | refine WC.draw 10 rfl (by decide +kernel) ?_ | refine WC.draw 11 rfl (by decide +kernel) ?_ | refine WC.draw 12 rfl (by decide +kernel) ?_ | refine WC.draw 13 rfl (by decide +kernel) ?_ | refine WC.draw 14 rfl (by decide +kernel) ?_ | refine WC.draw 15 rfl (by decide +kernel) ?_ | refine WC.draw 16 rfl (by decide +kernel) ?_ | refine WC.draw 17 rfl (by decide +kernel) ?_ | refine WC.draw 18 rfl (by decide +kernel) ?_ | refine WC.draw 19 rfl (by decide +kernel) ?_ | refine WC.draw 20 rfl (by decide +kernel) ?_ | refine WC.draw 21 rfl (by decide +kernel) ?_ | refine WC.draw 22 rfl (by decide +kernel) ?_ | refine WC.draw 23 rfl (by decide +kernel) ?_ | refine WC.draw 24 rfl (by decide +kernel) ?_)); (repeat (refine WD.cons rfl (fun c h => by cases h) sq_EQ2_1 ?_)); refine WD.nil ?_)); (try (refine st ?_; (repeat intro zzc))))); (repeat revert zzc); exact zzn.out) : G := h ⟨next⟩
theorem eQuoted_any (s : List UInt8) (hs : s.length ≤ 1000000) {w0 : World} {m : Mem} {H : SHeap} (hg : GTabs Tryd.prog m) :
    Does Tryd.prog 61 #[str s] w0 m H (Gives (str (quotedW s)) m H) := by
  refine Does.of_body (args := [str s]) Tryd.func61 rfl Tryd.ntmps61 rfl ?_
  refine WC.newRow (T := 5) (sz := 1) ?_
  have hp0 : pieces s = from_ s 0 := by unfold pieces; rfl
  (refine st_EQ2_1 ?_; intros; rename_i bB)
  refine w_callF Tryd.func77 ?_ (hs := writeByte_any (t := []) 34 (.inl rfl) (.inl rfl) (by simp) _ _ _)
  rintro v m H1 ⟨rfl, rfl, ao, a9, c9, hao, hc9, rfl⟩
  (refine st_EQ2_1 ?_; intros; rename_i bi)
  refine WC.loopH [(0, str s), (3, .pointer (some ⟨bB, 0, none⟩)), (9, .pointer (some ⟨bi, 0, none⟩))] ?_ ?_ (fun j r ds m' H' => ∃ (k : Nat) (ao : Option Addr) (a9 : Option Addr) (c9 : Nat) (n9 : Nat) (O : List UInt8), j = s.length - k ∧ r = [(0, str s), (3, .pointer (some ⟨bB, 0, none⟩)), (9, .pointer (some ⟨bi, 0, none⟩))] ∧ ds = [] ∧ m = m' ∧ H' = .blk bi (.stringIter ⟨s.toArray⟩ k) :: .blk bB (.cells [.pointer ao, .slice a9 n9 c9].toArray 138 (0, 0)) :: .row a9 c9 5 1 (bCs O) :: H ∧ (n9 = O.length) ∧ (ao = none ∨ ao = some ⟨bB, 0, none⟩) ∧ (a9 = none ∨ 0 < c9) ∧ (k ≤ s.length) ∧ (O.length ≤ 1 + 12 * k) ∧ ([34] ++ piecesW s (pieces s) = O ++ piecesW s (from_ s k))) (s.length - (0)) ⟨0, ao, a9, c9, 1, [34], rfl, rfl, rfl, rfl, rfl, rfl, hao, hc9, Nat.zero_le _, by simp, by rw [hp0]⟩ ?_
  · (repeat (first | exact Env.Sub.nil | refine Env.Sub.cons rfl ?_))
  · exact zpk
  rintro j r ds m' H' ⟨k, ao, a9, c9, n9, O, rfl, rfl, rfl, rfl, rfl, hn9, hao, hc9, hk, hOl, hO⟩
  subst hn9
  by_cases hlt : k < s.length
  · have hw := readP_w hlt
    have hok := readP_ok hlt
    have hrl := okr_le hok
    have hat := readP_at s k
    have hdl : (dl (s.drop k)).1 = (readP s k).r := (readP_r_eq s k).symm
    have hdw : (dl (s.drop k)).2 = (readP s k).w := (readP_w_eq s k).symm
    have hbp := broken_prefix hlt
    have hW := pieceW_length s (readP s k) hrl
    have hnext : [34] ++ piecesW s (pieces s) = (O ++ pieceW s (readP s k)) ++ piecesW s (from_ s (k + (readP s k).w)) := by
      rw [hO, from_cons hlt]; unfold piecesW; rw [List.flatMap_cons, List.append_assoc]
    have hnl : (O ++ pieceW s (readP s k)).length = O.length + (pieceW s (readP s k)).length := List.length_append
    generalize hP : readP s k = p at *
    cases hb : p.b with
    | true =>
      obtain ⟨hr, hpre⟩ := hbp.1 hb
      have hr2 : ((dl (s.drop k)).1 : Int) = 65533 := by rw [hdl, hr]; rfl
      have hw1 : pieceW s p = [92, 120, hexB (gb s k / 16), hexB (gb s k % 16)] := by unfold pieceW; rw [if_pos hb, hat]
      have hgl := gb_lt s k
      have hand : ((gb s k : Int).toNat &&& (15 : Int).toNat) = gb s k % 16 := and15 _
      have hsh : (gb s k : Int) / 2 ^ 4 = ((gb s k / 16 : Nat) : Int) := by omega
      have hl16 : ([48, 49, 50, 51, 52, 53, 54, 55, 56, 57, 97, 98, 99, 100, 101, 102] : List UInt8).length = 16 := rfl
      have hc1 : ([48, 49, 50, 51, 52, 53, 54, 55, 56, 57, 97, 98, 99, 100, 101, 102].take (gb s k / 16 + 1)).drop (gb s k / 16) = [hexB (gb s k / 16)] := hexs_cut (by omega)
      have hc2 : ([48, 49, 50, 51, 52, 53, 54, 55, 56, 57, 97, 98, 99, 100, 101, 102].take (gb s k % 16 + 1)).drop (gb s k % 16) = [hexB (gb s k % 16)] := hexs_cut (by omega)
      have hl2 : ([92, 120] : List UInt8).length = 2 := rfl
      have hl3 : ([92, 120] ++ [hexB (gb s k / 16)] : List UInt8).length = 3 := rfl
      have hl4 : [hexB (gb s k / 16)].length = 1 := rfl
      have hl5 : [hexB (gb s k % 16)].length = 1 := rfl
      have hpre2 : (!Lib.hasPrefix (s.drop k) [239, 191, 189]) = true := by rw [hpre]; rfl
      (try (refine st_EQ2_1 ?_; intros))
      refine WC.drawE 15 ([.blk bi (.stringIter ⟨s.toArray⟩ (k + (dl (List.drop k s)).2))]) (.blk bB (.cells [.pointer ao, .slice a9 O.length c9].toArray 138 (0, 0)) :: .row a9 c9 5 1 (bCs O) :: H) rfl (by decide +kernel) zpk ?_
      (refine cm_EQ2_1 ?_)
      rw [hsh, hand]
      (refine cm_EQ2_1 ?_)
      rw [hc1, hc2]
      (refine cm_EQ2_1 ?_)
      (refine cm_EQ2_1 ?_)
      refine WE.act1 14 (by decide +kernel) rfl rfl (fun c h => by cases h) ?_
      (try (refine st_EQ2_1 ?_; intros))
      rw [show [92, 120] ++ [hexB (gb s k / 16)] ++ [hexB (gb s k % 16)] = pieceW s p by rw [hw1]; rfl]
      refine WL.heap (H' := .blk bB (.cells [.pointer ao, .slice a9 O.length c9].toArray 138 (0, 0)) :: .row a9 c9 5 1 (bCs O) :: .blk bi (.stringIter ⟨s.toArray⟩ (k + (dl (List.drop k s)).2)) :: H) zpk ?_
      refine w_callF Tryd.func79 ?_ (hs := writeString_any (t := O) (s := pieceW s p) hao hc9 (by unfold FitsB; omega) _ _ _)
      rintro v m H1 ⟨rfl, rfl, ao, a8, c8, hao, hc8, rfl⟩
      (try (refine st_EQ2_1 ?_; intros))
      refine WQ.acted (B := []) (U := .blk bB (.cells [.pointer ao, .slice a8 (O ++ pieceW s p).length c8].toArray 138 (0, 0)) :: .row a8 c8 5 1 (bCs (O ++ pieceW s p)) :: H) rfl (Mem.le.refl _) zpk ?_
      refine WE.done (by decide +kernel) ?_
      (try (refine st_EQ2_1 ?_; intros))
      rw [hdw]
      refine WQ.next (s.length - (k + p.w)) ⟨k + p.w, ao, a8, c8, (O ++ pieceW s p).length, O ++ pieceW s p, rfl, rfl, rfl, rfl, rfl, ?_, ?_, ?_, ?_, ?_, ?_⟩ (by omega) zsb zpk
      · rfl
      · exact hao
      · exact hc8
      · omega
      · omega
      · exact hnext
    | false =>
      have hpre : ¬ (p.r = 65533 ∧ Lib.hasPrefix (s.drop k) [239, 191, 189] = false) := fun h => by rw [hbp.2 h] at hb; cases hb
      by_cases h34 : p.r = 34 ∨ p.r = 92
      · have hw1 : pieceW s p = [92, UInt8.ofNat p.r] := by unfold pieceW; rw [if_neg (by rw [hb]; decide), if_pos h34]
        have hef : fmb p.r = [UInt8.ofNat p.r] := by unfold fmb fm; rw [if_pos (by omega)]; rfl
        have hen : (Utf8.encode ((dl (List.drop k s)).1 : Int)).data.toList = [UInt8.ofNat p.r] := by rw [hdl, encode_eq, rn_nat hok, hef]
        have hl2 : ([92] : List UInt8).length = 1 := rfl
        have hl1 : ([UInt8.ofNat p.r] : List UInt8).length = 1 := rfl
        rcases h34 with h34 | h34
        all_goals
          have hr2 : ((dl (List.drop k s)).1 : Int) = p.r := by rw [hdl]
          have hel : (Utf8.encode ((dl (List.drop k s)).1 : Int)).data.toList.length = 1 := by rw [hen]; rfl
          (try (refine st_EQ2_1 ?_; intros))
          rw [hen, show [92] ++ [UInt8.ofNat p.r] = pieceW s p by rw [hw1]; rfl]
          refine WL.heap (H' := .blk bB (.cells [.pointer ao, .slice a9 O.length c9].toArray 138 (0, 0)) :: .row a9 c9 5 1 (bCs O) :: .blk bi (.stringIter ⟨s.toArray⟩ (k + (dl (List.drop k s)).2)) :: H) zpk ?_
          refine w_callF Tryd.func79 ?_ (hs := writeString_any (t := O) (s := pieceW s p) hao hc9 (by unfold FitsB; omega) _ _ _)
          rintro v m H1 ⟨rfl, rfl, ao, a8, c8, hao, hc8, rfl⟩
          (try (refine st_EQ2_1 ?_; intros))
          rw [hdw]
          refine WQ.next (s.length - (k + p.w)) ⟨k + p.w, ao, a8, c8, (O ++ pieceW s p).length, O ++ pieceW s p, rfl, rfl, rfl, rfl, rfl, ?_, ?_, ?_, ?_, ?_, ?_⟩ (by omega) zsb zpk
          · rfl
          · exact hao
          · exact hc8
          · omega
          · omega
          · exact hnext
      · have hr34 : ¬ ((dl (List.drop k s)).1 : Int) = 34 := by omega
        have hr92 : ¬ ((dl (List.drop k s)).1 : Int) = 92 := by omega
        by_cases h32 : 32 ≤ p.r ∧ p.r ≤ 126
        · have hw1 : pieceW s p = [UInt8.ofNat p.r] := by unfold pieceW; rw [if_neg (by rw [hb]; decide), if_neg h34, if_pos h32]
          have hef : pieceW s p = fmb (dl (List.drop k s)).1 := by rw [hw1, hdl]; unfold fmb fm; rw [if_pos (by omega)]; rfl
          have hok2 : okr (dl (List.drop k s)).1 := by rw [hdl]; exact hok
          have g1 : (32 : Int) ≤ ((dl (List.drop k s)).1 : Int) := by omega
          have g2 : ((dl (List.drop k s)).1 : Int) ≤ 126 := by omega
          (try (refine st_EQ2_1 ?_; intros))
          refine WL.heap (H' := .blk bB (.cells [.pointer ao, .slice a9 O.length c9].toArray 138 (0, 0)) :: .row a9 c9 5 1 (bCs O) :: .blk bi (.stringIter ⟨s.toArray⟩ (k + (dl (List.drop k s)).2)) :: H) zpk ?_
          refine w_callF Tryd.func80 ?_ (hs := writeRune_any (t := O) (dl (List.drop k s)).1 hok2 hao (by omega) _ _ _)
          rintro v m H1 ⟨rfl, ao, a8, c8, hao, hc8, rfl⟩
          rw [← hef]
          (try (refine st_EQ2_1 ?_; intros))
          rw [hdw]
          refine WQ.next (s.length - (k + p.w)) ⟨k + p.w, ao, a8, c8, (O ++ pieceW s p).length, O ++ pieceW s p, rfl, rfl, rfl, rfl, rfl, ?_, ?_, ?_, ?_, ?_, ?_⟩ (by omega) zsb zpk
          · rfl
          · exact hao
          · exact hc8
          · omega
          · omega
          · exact hnext
        · have hw1 : pieceW s p = [92, 123] ++ hexL p.r ++ [125] := by unfold pieceW; rw [if_neg (by rw [hb]; decide), if_neg h34, if_neg h32]
          have hu : (dl (List.drop k s)).1 ≤ 1114111 := by omega
          have hx5 := hexL_length 5 (dl (List.drop k s)).1 (by omega)
          have l2 : ([92, 123] : List UInt8).length = 2 := rfl
          have l3 : ([92, 123] ++ hexL (dl (List.drop k s)).1).length = 2 + (hexL (dl (List.drop k s)).1).length := by rw [List.length_append]; rfl
          have l1 : ([125] : List UInt8).length = 1 := rfl
          have ex : [92, 123] ++ hexL (dl (List.drop k s)).1 ++ [125] = pieceW s p := by rw [hw1, hdl]
          have hpf : p.r = 65533 → (!Lib.hasPrefix (s.drop k) [239, 191, 189]) = false := fun h => by
            cases h2 : Lib.hasPrefix (s.drop k) [239, 191, 189] with
            | true => rfl
            | false => exact absurd ⟨h, h2⟩ hpre
          rcases (show p.r < 32 ∨ (126 < p.r ∧ p.r ≠ 65533) ∨ p.r = 65533 by omega) with g1 | g1 | g1
          · have g2 : ¬ (32 : Int) ≤ ((dl (List.drop k s)).1 : Int) := by omega
            have g3 : ¬ ((dl (List.drop k s)).1 : Int) = 65533 := by omega
            (try (refine st_EQ2_1 ?_; intros))
            rw [ex]
            refine WL.heap (H' := .blk bB (.cells [.pointer ao, .slice a9 O.length c9].toArray 138 (0, 0)) :: .row a9 c9 5 1 (bCs O) :: .blk bi (.stringIter ⟨s.toArray⟩ (k + (dl (List.drop k s)).2)) :: H) zpk ?_
            refine w_callF Tryd.func79 ?_ (hs := writeString_any (t := O) (s := pieceW s p) hao hc9 (by unfold FitsB; omega) _ _ _)
            rintro v m H1 ⟨rfl, rfl, ao, a8, c8, hao, hc8, rfl⟩
            (try (refine st_EQ2_1 ?_; intros))
            rw [hdw]
            refine WQ.next (s.length - (k + p.w)) ⟨k + p.w, ao, a8, c8, (O ++ pieceW s p).length, O ++ pieceW s p, rfl, rfl, rfl, rfl, rfl, ?_, ?_, ?_, ?_, ?_, ?_⟩ (by omega) zsb zpk
            · rfl
            · exact hao
            · exact hc8
            · omega
            · omega
            · exact hnext
          · have g2 : ¬ ((dl (List.drop k s)).1 : Int) ≤ 126 := by omega
            have g3 : ¬ ((dl (List.drop k s)).1 : Int) = 65533 := by omega
            (try (refine st_EQ2_1 ?_; intros))
            rw [ex]
            refine WL.heap (H' := .blk bB (.cells [.pointer ao, .slice a9 O.length c9].toArray 138 (0, 0)) :: .row a9 c9 5 1 (bCs O) :: .blk bi (.stringIter ⟨s.toArray⟩ (k + (dl (List.drop k s)).2)) :: H) zpk ?_
            refine w_callF Tryd.func79 ?_ (hs := writeString_any (t := O) (s := pieceW s p) hao hc9 (by unfold FitsB; omega) _ _ _)
            rintro v m H1 ⟨rfl, rfl, ao, a8, c8, hao, hc8, rfl⟩
            (try (refine st_EQ2_1 ?_; intros))
            rw [hdw]
            refine WQ.next (s.length - (k + p.w)) ⟨k + p.w, ao, a8, c8, (O ++ pieceW s p).length, O ++ pieceW s p, rfl, rfl, rfl, rfl, rfl, ?_, ?_, ?_, ?_, ?_, ?_⟩ (by omega) zsb zpk
            · rfl
            · exact hao
            · exact hc8
            · omega
            · omega
            · exact hnext
          · have g2 : ¬ ((dl (List.drop k s)).1 : Int) ≤ 126 := by omega
            have g3 : ((dl (List.drop k s)).1 : Int) = 65533 := by omega
            have g4 := hpf g1
            (try (refine st_EQ2_1 ?_; intros))
            rw [ex]
            refine WL.heap (H' := .blk bB (.cells [.pointer ao, .slice a9 O.length c9].toArray 138 (0, 0)) :: .row a9 c9 5 1 (bCs O) :: .blk bi (.stringIter ⟨s.toArray⟩ (k + (dl (List.drop k s)).2)) :: H) zpk ?_
            refine w_callF Tryd.func79 ?_ (hs := writeString_any (t := O) (s := pieceW s p) hao hc9 (by unfold FitsB; omega) _ _ _)
            rintro v m H1 ⟨rfl, rfl, ao, a8, c8, hao, hc8, rfl⟩
            (try (refine st_EQ2_1 ?_; intros))
            rw [hdw]
            refine WQ.next (s.length - (k + p.w)) ⟨k + p.w, ao, a8, c8, (O ++ pieceW s p).length, O ++ pieceW s p, rfl, rfl, rfl, rfl, rfl, ?_, ?_, ?_, ?_, ?_, ?_⟩ (by omega) zsb zpk
            · rfl
            · exact hao
            · exact hc8
            · omega
            · omega
            · exact hnext
  · have ek : k = s.length := by omega
    rw [from_nil hlt] at hO
    have hq : O ++ [34] = quotedW s := by unfold quotedW; rw [hO]; unfold piecesW; simp
    (try (refine st_EQ2_1 ?_; intros))
    refine w_callF Tryd.func77 ?_ (hs := writeByte_any (t := O) 34 hao hc9 (by omega) _ _ _)
    rintro v m H1 ⟨rfl, rfl, ao, a8, c8, hao, hc8, rfl⟩
    rw [hq]
    have hql := quotedW_length s
    (try (refine st_EQ2_1 ?_; intros))
    refine w_callF Tryd.func82 ?_ (hs := bString_any (t := quotedW s) hc8 (by omega) _ _ _)
    rintro v m H1 ⟨rfl, rfl, rfl⟩
    (try (refine st_EQ2_1 ?_; intros))
    exact q_fin0 (H0 := H1) (Gives.mk rfl) (hd := zpk)
end Go.Proofs.YtelgegefmjlimaaDoor

/-
  The walk of the program reader's quoted. No condition.
-/
namespace Go.Proofs.YtelgegefmjlimaaDoor
open Go Go.Eng
set_option maxRecDepth 100000
set_option maxHeartbeats 4000000
set_option linter.all false
attribute [local irreducible] WL WC WQ QFun QLoop Does Q1 QRound QAssign Go.Addr.add
attribute [local irreducible] partF quotedW
theorem sq_EQ4_1 {G : Prop} (h : G := by (repeat (first | (refine sp ?_; (repeat intro zzc)) | (refine iF 28 rfl ?_; refine w_callG Tryd.func28 ?_ (hs := eIs_int zhs (by omega) (by omega) (by omega))) | (refine iF 61 rfl ?_; refine w_callG Tryd.func61 ?_ (hs := eQuoted_any _ (by omega) (by assumption))))); exact WQ.q1 rfl) : G := h
theorem cm_EQ4_1 {G G' : Prop} (next : G') (h : Bx G' → G := by intro zzn; (try (refine wcal 0 ?_ (hwl := by intro zm zF zle; exact sq_EQ4_1))); (try (refine wcal 1 ?_ (hwl := by intro zm zF zle; exact sq_EQ4_1))); (try (refine wcal 2 ?_ (hwl := by intro zm zF zle; exact sq_EQ4_1))); (try (refine wcal 3 ?_ (hwl := by intro zm zF zle; exact sq_EQ4_1))); (try (refine wcal 4 ?_ (hwl := by intro zm zF zle; exact sq_EQ4_1))); (try (refine wcal 5 ?_ (hwl := by intro zm zF zle; exact sq_EQ4_1))); (try (refine wcal 6 ?_ (hwl := by intro zm zF zle; exact sq_EQ4_1))); (try (refine wcal 7 ?_ (hwl := by intro zm zF zle; exact sq_EQ4_1))); (try (refine wcal 8 ?_ (hwl := by intro zm zF zle; exact sq_EQ4_1))); (try (refine wcal 9 ?_ (hwl := by intro zm zF zle; exact sq_EQ4_1))); (try (refine wcal 10 ?_ (hwl := by intro zm zF zle; exact sq_EQ4_1))); (try (refine wcal 11 ?_ (hwl := by intro zm zF zle; exact sq_EQ4_1))); (try (refine wcal 12 ?_ (hwl := by intro zm zF zle; exact sq_EQ4_1))); (try (refine wcal 13 ?_ (hwl := by intro zm zF zle; exact sq_EQ4_1))); (try (refine wcal 14 ?_ (hwl := by intro zm zF zle; exact sq_EQ4_1))); (try (refine wcal 15 ?_ (hwl := by intro zm zF zle; exact sq_EQ4_1))); (try (refine wcal 16 ?_ (hwl := by intro zm zF zle; exact sq_EQ4_1))); (try (refine wcal 17 ?_ (hwl := by intro zm zF zle; exact sq_EQ4_1))); (try (refine wcal 18 ?_ (hwl := by intro zm zF zle; exact sq_EQ4_1))); (try (refine wcal 19 ?_ (hwl := by intro zm zF zle; exact sq_EQ4_1))); (try (refine wcal 20 ?_ (hwl := by intro zm zF zle; exact sq_EQ4_1))); (try (refine wcal 21 ?_ (hwl := by intro zm zF zle; exact sq_EQ4_1))); (try (refine wcal 22 ?_ (hwl := by intro zm zF zle; exact sq_EQ4_1))); (try (refine wcal 23 ?_ (hwl := by intro zm zF zle; exact sq_EQ4_1))); (try (refine wcal 24 ?_ (hwl := by intro zm zF zle; exact sq_EQ4_1))); (try (refine wcal 25 ?_ (hwl := by intro zm zF zle; exact sq_EQ4_1))); (try (refine wcal 26 ?_ (hwl := by intro zm zF zle; exact sq_EQ4_1))); (try (refine wcal 27 ?_ (hwl := by intro zm zF zle; exact sq_EQ4_1))); (try (refine wcal 28 ?_ (hwl := by intro zm zF zle; exact sq_EQ4_1))); (try (refine wcal 29 ?_ (hwl := by intro zm zF zle; exact sq_EQ4_1))); (try (refine wcal 30 ?_ (hwl := by intro zm zF zle; exact sq_EQ4_1))); (try (refine wcal 31 ?_ (hwl := by intro zm zF zle; exact sq_EQ4_1))); (try (refine wcal 32 ?_ (hwl := by intro zm zF zle; exact sq_EQ4_1))); (try (refine wcal 33 ?_ (hwl := by intro zm zF zle; exact sq_EQ4_1))); (try (refine wcal 34 ?_ (hwl := by intro zm zF zle; exact sq_EQ4_1))); (try (refine wcal 35 ?_ (hwl := by intro zm zF zle; exact sq_EQ4_1))); (try (refine wcal 36 ?_ (hwl := by intro zm zF zle; exact sq_EQ4_1))); (try (refine wcal 37 ?_ (hwl := by intro zm zF zle; exact sq_EQ4_1))); (try (refine wcal 38 ?_ (hwl := by intro zm zF zle; exact sq_EQ4_1))); (try (refine wcal 39 ?_ (hwl := by intro zm zF zle; exact sq_EQ4_1))); (try (refine wcal 40 ?_ (hwl := by intro zm zF zle; exact sq_EQ4_1))); (try (refine wcal 41 ?_ (hwl := by intro zm zF zle; exact sq_EQ4_1))); exact zzn.out) : G := h ⟨next⟩
theorem st_EQ4_1 {G G' : Prop} (next : G') (h : Bx G' → G := by intro zzn; (first | ((refine st ?_; (repeat intro zzc)); (try ((first | (refine iF 28 rfl ?_; refine w_callG Tryd.func28 ?_ (hs := eIs_int zhs (by omega) (by omega) (by omega))) | (refine iF 61 rfl ?_; refine w_callG Tryd.func61 ?_ (hs := eQuoted_any _ (by omega) (by assumption))) | ((refine iDraw ?_; (first | refine WC.drawAll rfl (by decide +kernel) ?_ | refine WC.draw 1 rfl (by decide +kernel) ?_ | refine WC.draw 2 rfl (by decide +kernel) ?_ | refine WC.draw 3 rfl (by decide +kernel) ?_ | refine WC.draw 4 rfl (by decide +kernel) ?_ | refine WC.draw 5 rfl (by decide +kernel) ?_ | refine WC.draw 6 rfl (by decide +kernel) ?_ | refine WC.draw 7 rfl (by decide +kernel) ?_ | refine WC.draw 8 rfl (by decide +kernel) ?_ | refine WC.draw 9 rfl (by decide +kernel) ?_ | refine WC.draw 10 rfl (by decide +kernel) ?_ | refine WC.draw 11 rfl (by decide +kernel) ?_ | refine WC.draw 12 rfl (by decide +kernel) ?_ | refine WC.draw 13 rfl (by decide +kernel) ?_ | refine WC.draw 14 rfl (by decide +kernel) ?_ | refine WC.draw 15 rfl (by decide +kernel) ?_ | refine WC.draw 16 rfl (by decide +kernel) ?_ | refine WC.draw 17 rfl (by decide +kernel) ?_ | refine WC.draw 18 rfl (by decide +kernel) ?_ | refine WC.draw 19 rfl (by decide +kernel) ?_ | refine WC.draw 20 rfl (by decide +kernel) ?_ | refine WC.draw 21 rfl (by decide +kernel) ?_ | refine WC.draw 22 rfl (by decide +kernel) ?_ | refine WC.draw 23 rfl (by decide +kernel) ?_ | refine WC.draw 24 rfl (by decide +kernel) ?_)); (repeat (refine WD.cons rfl (fun c h => by cases h) sq_EQ4_1 ?_)); refine WD.nil ?_)); (try (refine st ?_; (repeat intro zzc)))))) | ((first | (refine iF 28 rfl ?_; refine w_callG Tryd.func28 ?_ (hs := eIs_int zhs (by omega) (by omega) (by omega))) | (refine iF 61 rfl ?_; refine w_callG Tryd.func61 ?_ (hs := eQuoted_any _ (by omega) (by assumption))) | ((refine iDraw ?_; (first | refine WC.drawAll rfl (by decide +kernel) ?_ | refine WC.draw 1 rfl (by decide +kernel) ?_ | refine WC.draw 2 rfl (by decide +kernel) ?_ | refine WC.draw 3 rfl (by decide +kernel) ?_ | refine WC.draw 4 rfl (by decide +kernel) ?_ | refine WC.draw 5 rfl (by decide +kernel) ?_ | refine WC.draw 6 rfl (by decide +kernel) ?_ | refine WC.draw 7 rfl (by decide +kernel) ?_ | refine WC.draw 8 rfl (by decide +kernel) ?_ | refine WC.draw 9 rfl (by decide +kernel) ?_ | refine WC.draw 10 rfl (by decide +kernel) ?_ | refine WC.draw 11 rfl (by decide +kernel) ?_ | refine WC.draw 12 rfl (by decide +kernel) ?_ | refine WC.draw 13 rfl (by decide +kernel) ?_ | refine WC.draw 14 rfl (by decide +kernel) ?_ | refine WC.draw 15 rfl (by decide +kernel) ?_ | refine WC.draw 16 rfl (by decide +kernel) ?_ | refine WC.draw 17 rfl (by decide +kernel) ?_ | refine WC.draw 18 rfl (by decide +kernel) ?_ | refine WC.draw 19 rfl (by decide +kernel) ?_ | refine WC.draw 20 rfl (by decide +kernel) ?_ | refine WC.draw 21 rfl (by decide +kernel) ?_ | refine WC.draw 22 rfl (by decide +kernel) ?_ | refine WC.draw 23 rfl (by decide +kernel) ?_ | refine WC.draw 24 rfl (by decide +kernel) ?_)); (repeat (refine WD.cons rfl (fun c h => by cases h) sq_EQ4_1 ?_)); refine WD.nil ?_)); (try (refine st ?_; (repeat intro zzc))))); (repeat ((first | (refine iF 28 rfl ?_; refine w_callG Tryd.func28 ?_ (hs := eIs_int zhs (by omega) (by omega) (by omega))) | (refine iF 61 rfl ?_; refine w_callG Tryd.func61 ?_ (hs := eQuoted_any _ (by omega) (by assumption))) | ((refine iDraw ?_; (first | refine WC.drawAll rfl (by decide +kernel) ?_ | refine WC.draw 1 rfl (by decide +kernel) ?_ | refine WC.draw 2 rfl (by decide +kernel) ?_ | refine WC.draw 3 rfl (by decide +kernel) ?_ | refine WC.draw 4 rfl (by decide +kernel) ?_ | refine WC.draw 5 rfl (by decide +kernel) ?_ | refine WC.draw 6 rfl (by decide +kernel) ?_ | refine WC.draw 7 rfl (by decide +kernel) ?_ | refine WC.draw 8 rfl (by decide +kernel) ?_ | refine WC.draw 9 rfl (by decide +kernel) ?_ | refine WC.draw 10 rfl (by decide +kernel) ?_ | refine WC.draw 11 rfl (by decide +kernel) ?_ | refine WC.draw 12 rfl (by decide +kernel) ?_ | refine WC.draw 13 rfl (by decide +kernel) ?_ | refine WC.draw 14 rfl (by decide +kernel) ?_ | refine WC.draw 15 rfl (by decide +kernel) ?_ | refine WC.draw 16 rfl (by decide +kernel) ?_ | refine WC.draw 17 rfl (by decide +kernel) ?_ | refine WC.draw 18 rfl (by decide +kernel) ?_ | refine WC.draw 19 rfl (by decide +kernel) ?_ | refine WC.draw 20 rfl (by decide +kernel) ?_ | refine WC.draw 21 rfl (by decide +kernel) ?_ | refine WC.draw 22 rfl (by decide +kernel) ?_ | refine WC.draw 23 rfl (by decide +kernel) ?_ | refine WC.draw 24 rfl (by decide +kernel) ?_)); (repeat (refine WD.cons rfl (fun c h => by cases h) sq_EQ4_1 ?_)); refine WD.nil ?_)); (try (refine st ?_; (repeat intro zzc))))); (repeat revert zzc); exact zzn.out) : G := h ⟨next⟩
theorem eQuotedR_any (b : Nat) (s : List UInt8) (a : Nat) (wr : Int) (fr to : Nat) (drop : Bool) (hs : s.length ≤ 200000) (ha : a ≤ s.length) (hfr : fr ≤ 65536) (hto : to ≤ 65536) {w0 : World} {m : Mem} {H : SHeap} (hg : GTabs Tryd.prog m) :
    Does Tryd.prog 55 #[.pointer (some ⟨b, 0, none⟩), .bool drop] w0 m (.blk b (.cells [str s, .int .i64 (a : Int), .int .i64 wr, .int .i64 (fr : Int), .int .i64 (to : Int)].toArray 61 (0, 0)) :: H) (fun v m' H' => m' = m ∧ ((∃ e t, qokF s a (65536 - if drop = true then fr else to) = .yes e t ∧ v = .tuple #[str t, .bool true] ∧ H' = .blk b (.cells [str s, .int .i64 (e : Int), .int .i64 wr, .int .i64 (fr : Int), .int .i64 (to : Int)].toArray 61 (0, 0)) :: H) ∨
      (∃ (w e : Nat), qokF s a (65536 - if drop = true then fr else to) = .no w ∧ v = .tuple #[str [], .bool false] ∧ H' = .blk b (.cells [str s, .int .i64 (e : Int), .int .i64 (w : Int), .int .i64 (fr : Int), .int .i64 (to : Int)].toArray 61 (0, 0)) :: H))) := by
  refine Does.of_body (args := [.pointer (some ⟨b, 0, none⟩), .bool drop]) Tryd.func55 rfl Tryd.ntmps55 rfl ?_
  generalize hroom : (65536 - if drop = true then fr else to) = room
  by_cases h1 : a < s.length ∧ gb s a = 34
  · have hq : quotF s a = quoF s (s.length + 1) (a + 1) [] := by unfold quotF; rw [if_pos h1]
    have hqo : ∀ room, qokF s a room = match quotF s a with | .no w => .no w | .yes e t => if t = [] ∨ quotedW t ≠ sub s a e ∨ room < t.length then .no a else .yes e t := fun _ => rfl
    generalize hR : quotF s a = R at *
    refine WC.newRow (T := 5) (sz := 1) ?_
    have ea : (a : Int) + 1 = ((a + 1 : Nat) : Int) := by omega
    obtain ⟨h1, h34⟩ := h1
    (try (refine st_EQ4_1 ?_; intros))
    rw [ea]
    refine WC.loopH [(7, .slice (none) (0) (0)), (6, .int .i64 (a : Int)), (0, .pointer (some ⟨b, 0, none⟩)), (1, .bool drop)] ?_ ?_ (fun j r ds m' H' => ∃ (f : Nat) (e : Nat) (a9 : Option Addr) (c9 : Nat) (n9 : Nat) (O : List UInt8), j = 2 * f ∧ r = [(7, .slice a9 n9 c9), (6, .int .i64 (a : Int)), (0, .pointer (some ⟨b, 0, none⟩)), (1, .bool drop)] ∧ ds = [] ∧ m = m' ∧ H' = .row a9 c9 5 1 (bCs O) :: .blk b (.cells [str s, .int .i64 (e : Int), .int .i64 wr, .int .i64 (fr : Int), .int .i64 (to : Int)].toArray 61 (0, 0)) :: H ∧ (n9 = O.length) ∧ (O.length ≤ 4 * e ∧ e ≤ s.length) ∧ (a ≤ e + 1) ∧ (s.length < e + f) ∧ (quoF s f e O = R)) (2 * (s.length + 1)) ⟨s.length + 1, a + 1, none, 0, 0, ([] : List UInt8), rfl, rfl, rfl, rfl, rfl, rfl, ⟨by simp, h1⟩, by omega, by omega, hq.symm⟩ ?_
    · (repeat (first | exact Env.Sub.nil | refine Env.Sub.cons rfl ?_))
    · exact zpk
    rintro j r ds m' H' ⟨f, e, a9, c9, n9, O, rfl, rfl, rfl, rfl, rfl, hn9, hOl, hae0, hf, hQ⟩
    subst hn9
    have hbl := bCs_length O
    obtain ⟨hOl, hes⟩ := hOl
    have ee : (e : Int) + 1 = ((e + 1 : Nat) : Int) := by omega
    have hge := gb_lt s e
    obtain ⟨f, rfl⟩ : ∃ g, f = g + 1 := ⟨f - 1, by omega⟩
    rw [quoF] at hQ
    by_cases h3 : e < s.length ∧ gb s e = 34
    · rw [if_pos h3] at hQ
      rw [← hQ] at hqo
      obtain ⟨h3, h30⟩ := h3
      have hst : (s.take (e + 1)).drop a = sub s a (e + 1) := by unfold sub; rw [List.drop_take]
      simp only [ne_eq, ← hst] at hqo
      have hae : a ≤ e + 1 := hae0
      (try (refine st_EQ4_1 ?_; intros))
      rw [ee]
      refine WL.rowStr (s := O) rfl rfl zhs rfl rfl rfl rfl rfl ?_
      cases drop with
      | true =>
        replace hqo := hqo room
        have hroom2 : 65536 - fr = room := hroom
        by_cases g1 : O = []
        · rw [if_pos (.inl g1)] at hqo
          (try (refine st_EQ4_1 ?_; intros))
          refine WL.heap (H' := .blk b (.cells [str s, .int .i64 ((e + 1 : Nat) : Int), .int .i64 wr, .int .i64 (fr : Int), .int .i64 (to : Int)].toArray 61 (0, 0)) :: H) zpk ?_
          refine w_callF Tryd.func56 ?_ (hs := eFail_any b s (e + 1) wr (fr : Int) (to : Int) (a : Int) _ _ _)
          rintro v m H1 ⟨rfl, rfl, rfl⟩
          (try (refine st_EQ4_1 ?_; intros))
          exact q_fin0 (H0 := .blk b (.cells [str s, .int .i64 ((e + 1 : Nat) : Int), .int .i64 (a : Int), .int .i64 (fr : Int), .int .i64 (to : Int)].toArray 61 (0, 0)) :: H) ⟨rfl, .inr ⟨a, e + 1, hqo, rfl, rfl⟩⟩ (hd := zpk)
        · by_cases g2 : quotedW O = (s.take (e + 1)).drop a
          · by_cases g3 : room < O.length
            · have g4 : (65536 : Int) < (fr : Int) + (O.length : Int) := by omega
              rw [if_pos (.inr (.inr g3))] at hqo
              (try (refine st_EQ4_1 ?_; intros))
              refine WL.heap (H' := .blk b (.cells [str s, .int .i64 ((e + 1 : Nat) : Int), .int .i64 wr, .int .i64 (fr : Int), .int .i64 (to : Int)].toArray 61 (0, 0)) :: H) zpk ?_
              refine w_callF Tryd.func56 ?_ (hs := eFail_any b s (e + 1) wr (fr : Int) (to : Int) (a : Int) _ _ _)
              rintro v m H1 ⟨rfl, rfl, rfl⟩
              (try (refine st_EQ4_1 ?_; intros))
              exact q_fin0 (H0 := .blk b (.cells [str s, .int .i64 ((e + 1 : Nat) : Int), .int .i64 (a : Int), .int .i64 (fr : Int), .int .i64 (to : Int)].toArray 61 (0, 0)) :: H) ⟨rfl, .inr ⟨a, e + 1, hqo, rfl, rfl⟩⟩ (hd := zpk)
            · have g4 : ¬ (65536 : Int) < (fr : Int) + (O.length : Int) := by omega
              rw [if_neg (fun h => h.elim g1 fun h => h.elim (fun h => h g2) g3)] at hqo
              (try (refine st_EQ4_1 ?_; intros))
              exact q_fin0 (H0 := .blk b (.cells [str s, .int .i64 ((e + 1 : Nat) : Int), .int .i64 wr, .int .i64 (fr : Int), .int .i64 (to : Int)].toArray 61 (0, 0)) :: H) ⟨rfl, .inl ⟨e + 1, O, hqo, rfl, rfl⟩⟩ (hd := zpk)
          · rw [if_pos (.inr (.inl g2))] at hqo
            (try (refine st_EQ4_1 ?_; intros))
            refine WL.heap (H' := .blk b (.cells [str s, .int .i64 ((e + 1 : Nat) : Int), .int .i64 wr, .int .i64 (fr : Int), .int .i64 (to : Int)].toArray 61 (0, 0)) :: H) zpk ?_
            refine w_callF Tryd.func56 ?_ (hs := eFail_any b s (e + 1) wr (fr : Int) (to : Int) (a : Int) _ _ _)
            rintro v m H1 ⟨rfl, rfl, rfl⟩
            (try (refine st_EQ4_1 ?_; intros))
            exact q_fin0 (H0 := .blk b (.cells [str s, .int .i64 ((e + 1 : Nat) : Int), .int .i64 (a : Int), .int .i64 (fr : Int), .int .i64 (to : Int)].toArray 61 (0, 0)) :: H) ⟨rfl, .inr ⟨a, e + 1, hqo, rfl, rfl⟩⟩ (hd := zpk)
      | false =>
        replace hqo := hqo room
        have hroom2 : 65536 - to = room := hroom
        by_cases g1 : O = []
        · rw [if_pos (.inl g1)] at hqo
          (try (refine st_EQ4_1 ?_; intros))
          refine WL.heap (H' := .blk b (.cells [str s, .int .i64 ((e + 1 : Nat) : Int), .int .i64 wr, .int .i64 (fr : Int), .int .i64 (to : Int)].toArray 61 (0, 0)) :: H) zpk ?_
          refine w_callF Tryd.func56 ?_ (hs := eFail_any b s (e + 1) wr (fr : Int) (to : Int) (a : Int) _ _ _)
          rintro v m H1 ⟨rfl, rfl, rfl⟩
          (try (refine st_EQ4_1 ?_; intros))
          exact q_fin0 (H0 := .blk b (.cells [str s, .int .i64 ((e + 1 : Nat) : Int), .int .i64 (a : Int), .int .i64 (fr : Int), .int .i64 (to : Int)].toArray 61 (0, 0)) :: H) ⟨rfl, .inr ⟨a, e + 1, hqo, rfl, rfl⟩⟩ (hd := zpk)
        · by_cases g2 : quotedW O = (s.take (e + 1)).drop a
          · by_cases g3 : room < O.length
            · have g4 : (65536 : Int) < (to : Int) + (O.length : Int) := by omega
              rw [if_pos (.inr (.inr g3))] at hqo
              (try (refine st_EQ4_1 ?_; intros))
              refine WL.heap (H' := .blk b (.cells [str s, .int .i64 ((e + 1 : Nat) : Int), .int .i64 wr, .int .i64 (fr : Int), .int .i64 (to : Int)].toArray 61 (0, 0)) :: H) zpk ?_
              refine w_callF Tryd.func56 ?_ (hs := eFail_any b s (e + 1) wr (fr : Int) (to : Int) (a : Int) _ _ _)
              rintro v m H1 ⟨rfl, rfl, rfl⟩
              (try (refine st_EQ4_1 ?_; intros))
              exact q_fin0 (H0 := .blk b (.cells [str s, .int .i64 ((e + 1 : Nat) : Int), .int .i64 (a : Int), .int .i64 (fr : Int), .int .i64 (to : Int)].toArray 61 (0, 0)) :: H) ⟨rfl, .inr ⟨a, e + 1, hqo, rfl, rfl⟩⟩ (hd := zpk)
            · have g4 : ¬ (65536 : Int) < (to : Int) + (O.length : Int) := by omega
              rw [if_neg (fun h => h.elim g1 fun h => h.elim (fun h => h g2) g3)] at hqo
              (try (refine st_EQ4_1 ?_; intros))
              exact q_fin0 (H0 := .blk b (.cells [str s, .int .i64 ((e + 1 : Nat) : Int), .int .i64 wr, .int .i64 (fr : Int), .int .i64 (to : Int)].toArray 61 (0, 0)) :: H) ⟨rfl, .inl ⟨e + 1, O, hqo, rfl, rfl⟩⟩ (hd := zpk)
          · rw [if_pos (.inr (.inl g2))] at hqo
            (try (refine st_EQ4_1 ?_; intros))
            refine WL.heap (H' := .blk b (.cells [str s, .int .i64 ((e + 1 : Nat) : Int), .int .i64 wr, .int .i64 (fr : Int), .int .i64 (to : Int)].toArray 61 (0, 0)) :: H) zpk ?_
            refine w_callF Tryd.func56 ?_ (hs := eFail_any b s (e + 1) wr (fr : Int) (to : Int) (a : Int) _ _ _)
            rintro v m H1 ⟨rfl, rfl, rfl⟩
            (try (refine st_EQ4_1 ?_; intros))
            exact q_fin0 (H0 := .blk b (.cells [str s, .int .i64 ((e + 1 : Nat) : Int), .int .i64 (a : Int), .int .i64 (fr : Int), .int .i64 (to : Int)].toArray 61 (0, 0)) :: H) ⟨rfl, .inr ⟨a, e + 1, hqo, rfl, rfl⟩⟩ (hd := zpk)
    · rw [if_neg h3] at hQ
      by_cases h4 : e < s.length ∧ gb s e = 92
      · rw [if_pos h4] at hQ
        obtain ⟨h4, h5⟩ := h4
        (try (refine st_EQ4_1 ?_; intros))
        rw [ee]
        refine WL.heap (H' := .blk b (.cells [str s, .int .i64 ((e + 1 : Nat) : Int), .int .i64 wr, .int .i64 (fr : Int), .int .i64 (to : Int)].toArray 61 (0, 0)) :: .row a9 c9 5 1 (bCs O) :: H) zpk ?_
        refine w_callF Tryd.func75 ?_ (hs := ePart_any b s (e + 1) wr (fr : Int) (to : Int) (by omega) h4 _ _ _)
        rintro v m H1 ⟨rfl, (⟨e2, t, hp, rfl, rfl⟩ | ⟨w, e2, hp, rfl, rfl⟩)⟩
        · rw [hp] at hQ
          simp only at hQ
          have hpy := partF_yes hp
          have em : bCs O ++ List.map (fun b => [Value.int .u8 (b.toNat : Int)]) t = bCs (O ++ t) := by rw [← bCs_cat]; rfl
          have el : (bCs O).length + t.length = (O ++ t).length := by rw [bCs_length, List.length_append]
          have el2 : (O ++ t).length = O.length + t.length := List.length_append
          (refine st_EQ4_1 ?_; intros; rename_i a8 c8)
          rw [em, el]
          refine WQ.next (2 * (f)) ⟨f, e2, a8, c8, (O ++ t).length, O ++ t, rfl, rfl, rfl, rfl, rfl, ?_, ?_, ?_, ?_, ?_⟩ (by omega) zsb zpk
          · rfl
          · omega
          · omega
          · omega
          · exact hQ
        · rw [hp] at hQ
          simp only at hQ
          rw [← hQ] at hqo
          (try (refine st_EQ4_1 ?_; intros))
          exact q_fin0 (H0 := .blk b (.cells [str s, .int .i64 (e2 : Int), .int .i64 (w : Int), .int .i64 (fr : Int), .int .i64 (to : Int)].toArray 61 (0, 0)) :: H) ⟨rfl, .inr ⟨w, e2, hqo _, rfl, rfl⟩⟩ (hd := zpk)
      · rw [if_neg h4] at hQ
        by_cases h5 : e < s.length ∧ 32 ≤ gb s e ∧ gb s e ≤ 126
        · rw [if_pos h5] at hQ
          obtain ⟨h5, h6, h7⟩ := h5
          have eb : ((gb s e : Nat) : Int) = ((UInt8.ofNat (gb s e)).toNat : Int) := by rw [UInt8.toNat_ofNat']; omega
          have ea1 : bCs O ++ [[Value.int .u8 (gb s e : Int)]] = bCs (O ++ [UInt8.ofNat (gb s e)]) := by rw [eb, ← bCs_cat]; rfl
          have el : (bCs O).length + 1 = (O ++ [UInt8.ofNat (gb s e)]).length := by rw [hbl]; simp
          (try (refine st_EQ4_1 ?_; intros))
          refine WC.drawE 13 ([.blk b (.cells [str s, .int .i64 (e : Int), .int .i64 wr, .int .i64 (fr : Int), .int .i64 (to : Int)].toArray 61 (0, 0))]) (.row a9 c9 5 1 (bCs O) :: H) rfl (by decide +kernel) zpk ?_
          (refine cm_EQ4_1 ?_)
          refine WE.act1 10 (by decide +kernel) rfl rfl (fun c h => by cases h) ?_
          (refine st_EQ4_1 ?_; intros; rename_i q)
          refine WQ.acted (B := [.blk q (.cells [.int .u8 (gb s e : Int)].toArray 5 (0, 0))]) (U := .row a9 c9 5 1 (bCs O) :: H) rfl (Mem.le.refl _) zpk ?_
          (refine cm_EQ4_1 ?_)
          refine WE.act1 11 (by decide +kernel) rfl rfl (fun c h => by cases h) ?_
          (refine st_EQ4_1 ?_; intros; rename_i a8 c8)
          rw [ea1, el]
          refine WQ.acted (B := []) (U := .row a8 c8 5 1 (bCs (O ++ [UInt8.ofNat (gb s e)])) :: H) rfl (Mem.le.refl _) zpk ?_
          (refine cm_EQ4_1 ?_)
          refine WE.done (by decide +kernel) ?_
          (try (refine st_EQ4_1 ?_; intros))
          rw [ee]
          refine WQ.next (2 * (f)) ⟨f, e + 1, a8, c8, (O ++ [UInt8.ofNat (gb s e)]).length, O ++ [UInt8.ofNat (gb s e)], rfl, rfl, rfl, rfl, rfl, ?_, ?_, ?_, ?_, ?_⟩ (by omega) zsb zpk
          · rfl
          · rw [List.length_append, List.length_singleton]; omega
          · omega
          · omega
          · exact hQ
        · rw [if_neg h5] at hQ
          rw [← hQ] at hqo
          have key : ¬ e < s.length ∨ (e < s.length ∧ ¬ 32 ≤ gb s e) ∨ (e < s.length ∧ 32 ≤ gb s e ∧ ¬ gb s e ≤ 126) := by omega
          rcases key with k1 | ⟨k1, k2⟩ | ⟨k1, k2, k3⟩
          all_goals
            (try (refine st_EQ4_1 ?_; intros))
            refine WL.heap (H' := .blk b (.cells [str s, .int .i64 (e : Int), .int .i64 wr, .int .i64 (fr : Int), .int .i64 (to : Int)].toArray 61 (0, 0)) :: H) zpk ?_
            refine w_callF Tryd.func56 ?_ (hs := eFail_any b s e wr (fr : Int) (to : Int) (e : Int) _ _ _)
            rintro v m H1 ⟨rfl, rfl, rfl⟩
            (try (refine st_EQ4_1 ?_; intros))
            exact q_fin0 (H0 := .blk b (.cells [str s, .int .i64 (e : Int), .int .i64 (e : Int), .int .i64 (fr : Int), .int .i64 (to : Int)].toArray 61 (0, 0)) :: H) ⟨rfl, .inr ⟨e, e, hqo _, rfl, rfl⟩⟩ (hd := zpk)
  · have hq : quotF s a = .no a := by unfold quotF; rw [if_neg h1]
    have hqo : ∀ room, qokF s a room = .no a := fun _ => by unfold qokF; rw [hq]
    (try (refine st_EQ4_1 ?_; intros))
    refine w_callF Tryd.func56 ?_ (hs := eFail_any b s a wr (fr : Int) (to : Int) (a : Int) _ _ _)
    rintro v m H1 ⟨rfl, rfl, rfl⟩
    (try (refine st_EQ4_1 ?_; intros))
    exact q_fin0 (H0 := .blk b (.cells [str s, .int .i64 (a : Int), .int .i64 (a : Int), .int .i64 (fr : Int), .int .i64 (to : Int)].toArray 61 (0, 0)) :: H) ⟨rfl, .inr ⟨a, a, hqo _, rfl, rfl⟩⟩ (hd := zpk)
end Go.Proofs.YtelgegefmjlimaaDoor

