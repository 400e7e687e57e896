/-
  Parts of a walk, joined: R31 R32 R11 R12 R33 EngQ. No condition.
-/
import Derived.Test.YtdmdabjaboigcaaP7
import Derived.Test.YtdmdabjaboigcaaP3
import Derived.ChangeMaps5
import Derived.ReadAgain
import Derived.ChangeBook
import Derived.Deep.Slices
import Derived.WalkKit
import Derived.ProofKit
import Derived.OpenShut
import Derived.JoinedCond
/-
  The walks of begun, Wants, and of the reference's lacks. No condition.
-/
namespace Go.Eng
open Go Go.RowKit
section
variable {P : Program} {ro : Option Nat} {n : Nat} {w0 : World} {Q : Exit → Act → World → Prop} {r : Env} {ds : List Nat} {m : Mem} {H : SHeap}
theorem WC.blkRow {c : Code} {b sz : Nat} {L : List Value} {T : TypeId} {es : List (List Value)} {H1 : SHeap} (ho : Out (.blk b (.cells L.toArray T (0, 0))) H H1) (hL : L = es.flatten) (hes : ∀ e ∈ es, e.length = sz)
    (h : WC P ro n w0 c Q r ds m (.row (some ⟨b, 0, none⟩) es.length T sz es :: H1)) : WC P ro n w0 c Q r ds m H := by
  subst hL
  exact fun tmps w hok hs => h tmps w hok (Sat.row_of hes (hs.perm ho.perm))
end
end Go.Eng
namespace Go.Proofs.Ytdmdabjaboigcaa
open Go Go.Eng
set_option maxRecDepth 100000
set_option maxHeartbeats 4000000
set_option linter.all false
attribute [local irreducible] WL WC WQ QFun QLoop Does Q1 QRound QAssign Go.Addr.add
theorem begun_any (l : List UInt8) (hl : l.length ≤ 9223372036854775804) (w0 : World) (m : Mem) (H : SHeap) :
    Does Try.prog 80 #[str l] w0 m H (Gives (.tuple #[.int .i64 ((begunOf l).1 : Int), .int .i64 ((begunOf l).2 : Int)]) m H) := by
  refine Does.of_body (args := [str l]) Try.func80 rfl Try.ntmps80 rfl ?_
  (try (refine st ?_; intros))
  refine WC.loopH [(4, .int .i64 ((1) : Int)), (0, str l)] ?_ ?_ (fun j r ds m' H' => ∃ k, j = 4 - k ∧ r = [(4, .int .i64 (k : Int)), (0, str l)] ∧ ds = [] ∧ m = m' ∧ H' = H ∧ (1 ≤ k ∧ k ≤ 4) ∧ (begunOf l = begunK l (4 - k))) (4 - (1)) ⟨1, rfl, rfl, rfl, rfl, rfl, by omega, rfl⟩ ?_
  · (repeat (first | exact Env.Sub.nil | refine Env.Sub.cons rfl ?_))
  · exact (fun w h => Pick.sat (by iterate 60 (try (first | exact Pick.all | (apply Pick.take; (· (repeat (first | exact Out.here | apply Out.there)))) | apply Pick.drop))) h)
  rintro j r ds m' H' ⟨k, rfl, rfl, rfl, rfl, rfl, hk, hbk⟩
  generalize H' = H
  by_cases hk3 : k ≤ 3
  · by_cases hkl : k ≤ l.length
    · have ht : ((l.length : Int) - (k : Int)).toNat = l.length - k := by omega
      obtain ⟨b, hb⟩ : ∃ b, l.drop (l.length - k) = b := ⟨_, rfl⟩
      have hbl : b.length = k := by rw [← hb]; simp; omega
      have hty := begun_yes hk.1 hk3 hkl
      have htn := begun_next hk.1 hk3 hkl
      rw [hb] at hty htn
      have hc0 := nb_lt b 0
      generalize hx : gb b 0 = x at hc0
      have hbg : begOk b ↔ k < ldN x ∧ (1 < k → loN x ≤ nb b 1 ∧ nb b 1 ≤ hiN x) ∧ (2 < k → 128 ≤ nb b 2 ∧ nb b 2 ≤ 191) := by
        unfold begOk; rw [hbl, show nb b 0 = x from hx]
      (try (refine st ?_; intros))
      rw [hb]
      by_cases hc1 : x < 194
      · (try (refine st ?_; intros))
        rw [hx]
        have hnb : ¬ begOk b := fun h => by have := (hbg.1 h).1; simp [ldN, hc1] at this
        (try (refine st ?_; intros))
        refine WQ.next (4 - (k + 1)) ⟨k + 1, rfl, rfl, rfl, rfl, rfl, ?_, ?_⟩ (by omega) (by (repeat (first | exact Env.Sub.nil | refine Env.Sub.cons rfl ?_))) (fun w h => Pick.sat (by iterate 60 (try (first | exact Pick.all | (apply Pick.take; (· (repeat (first | exact Out.here | apply Out.there)))) | apply Pick.drop))) h)
        · omega
        · rw [hbk, htn hnb]
      by_cases hc2 : 244 < x
      · (try (refine st ?_; intros))
        rw [hx]
        have hnb : ¬ begOk b := fun h => by have := (hbg.1 h).1; simp [ldN, hc2] at this
        (try (refine st ?_; intros))
        refine WQ.next (4 - (k + 1)) ⟨k + 1, rfl, rfl, rfl, rfl, rfl, ?_, ?_⟩ (by omega) (by (repeat (first | exact Env.Sub.nil | refine Env.Sub.cons rfl ?_))) (fun w h => Pick.sat (by iterate 60 (try (first | exact Pick.all | (apply Pick.take; (· (repeat (first | exact Out.here | apply Out.there)))) | apply Pick.drop))) h)
        · omega
        · rw [hbk, htn hnb]
      (try (refine st ?_; intros))
      rw [hx]
      (try (refine st ?_; intros))
      refine WC.join (fun r' ds' m' H' => ∃ n lo hi : Nat, n = ldN x ∧ lo = loN x ∧ hi = hiN x ∧ r' = [(6, .int .i64 (n : Int)), (7, .int .u8 (lo : Int)), (8, .int .u8 (hi : Int)), (5, str b), (4, .int .i64 (k : Int)), (0, str l)] ∧ ds' = [] ∧ m' = m ∧ H' = H) ?_ ?_
      · by_cases g1 : x < 224
        · (try (refine st ?_; intros))
          exact WQ.join ⟨2, 128, 191, by simp [ldN, hc1, hc2, g1], by unfold loN; rw [if_neg (by omega), if_neg (by omega)], by unfold hiN; rw [if_neg (by omega), if_neg (by omega)], rfl, rfl, rfl, rfl⟩ (by (repeat (first | exact Env.Sub.nil | refine Env.Sub.cons rfl ?_))) (fun w h => Pick.sat (by iterate 60 (try (first | exact Pick.all | (apply Pick.take; (· (repeat (first | exact Out.here | apply Out.there)))) | apply Pick.drop))) h)
        by_cases g2 : x < 240
        · by_cases g3 : x = 224
          · subst g3
            (try (refine st ?_; intros))
            exact WQ.join ⟨3, 160, 191, rfl, rfl, rfl, rfl, rfl, rfl, rfl⟩ (by (repeat (first | exact Env.Sub.nil | refine Env.Sub.cons rfl ?_))) (fun w h => Pick.sat (by iterate 60 (try (first | exact Pick.all | (apply Pick.take; (· (repeat (first | exact Out.here | apply Out.there)))) | apply Pick.drop))) h)
          by_cases g4 : x = 237
          · subst g4
            (try (refine st ?_; intros))
            exact WQ.join ⟨3, 128, 159, rfl, rfl, rfl, rfl, rfl, rfl, rfl⟩ (by (repeat (first | exact Env.Sub.nil | refine Env.Sub.cons rfl ?_))) (fun w h => Pick.sat (by iterate 60 (try (first | exact Pick.all | (apply Pick.take; (· (repeat (first | exact Out.here | apply Out.there)))) | apply Pick.drop))) h)
          (try (refine st ?_; intros))
          exact WQ.join ⟨3, 128, 191, by simp [ldN, hc1, hc2, g1, g2], by unfold loN; rw [if_neg (by omega), if_neg (by omega)], by unfold hiN; rw [if_neg (by omega), if_neg (by omega)], rfl, rfl, rfl, rfl⟩ (by (repeat (first | exact Env.Sub.nil | refine Env.Sub.cons rfl ?_))) (fun w h => Pick.sat (by iterate 60 (try (first | exact Pick.all | (apply Pick.take; (· (repeat (first | exact Out.here | apply Out.there)))) | apply Pick.drop))) h)
        by_cases g3 : x = 240
        · subst g3
          (try (refine st ?_; intros))
          exact WQ.join ⟨4, 144, 191, rfl, rfl, rfl, rfl, rfl, rfl, rfl⟩ (by (repeat (first | exact Env.Sub.nil | refine Env.Sub.cons rfl ?_))) (fun w h => Pick.sat (by iterate 60 (try (first | exact Pick.all | (apply Pick.take; (· (repeat (first | exact Out.here | apply Out.there)))) | apply Pick.drop))) h)
        by_cases g4 : x = 244
        · subst g4
          (try (refine st ?_; intros))
          exact WQ.join ⟨4, 128, 143, rfl, rfl, rfl, rfl, rfl, rfl, rfl⟩ (by (repeat (first | exact Env.Sub.nil | refine Env.Sub.cons rfl ?_))) (fun w h => Pick.sat (by iterate 60 (try (first | exact Pick.all | (apply Pick.take; (· (repeat (first | exact Out.here | apply Out.there)))) | apply Pick.drop))) h)
        (try (refine st ?_; intros))
        exact WQ.join ⟨4, 128, 191, by simp [ldN, hc1, hc2, g1, g2], by unfold loN; rw [if_neg (by omega), if_neg (by omega)], by unfold hiN; rw [if_neg (by omega), if_neg (by omega)], rfl, rfl, rfl, rfl⟩ (by (repeat (first | exact Env.Sub.nil | refine Env.Sub.cons rfl ?_))) (fun w h => Pick.sat (by iterate 60 (try (first | exact Pick.all | (apply Pick.take; (· (repeat (first | exact Out.here | apply Out.there)))) | apply Pick.drop))) h)
      rintro _ _ m H ⟨n, lo, hi, hn, hlo, hhi, rfl, rfl, rfl, rfl⟩
      have hn4 := ldN_le x
      by_cases hkn : n ≤ k
      · have hnb : ¬ begOk b := fun h => by have := (hbg.1 h).1; omega
        (try (refine st ?_; intros))
        refine WQ.next (4 - (k + 1)) ⟨k + 1, rfl, rfl, rfl, rfl, rfl, ?_, ?_⟩ (by omega) (by (repeat (first | exact Env.Sub.nil | refine Env.Sub.cons rfl ?_))) (fun w h => Pick.sat (by iterate 60 (try (first | exact Pick.all | (apply Pick.take; (· (repeat (first | exact Out.here | apply Out.there)))) | apply Pick.drop))) h)
        · omega
        · rw [hbk, htn hnb]
      have hd1 : (b.drop 1).length = k - 1 := by simp; omega
      (refine st ?_; intros; rename_i y cy)
      refine WC.loopH [(58, .int .i64 ((0) : Int)), (57, .int .i64 ((b.drop 1).length : Int)), (56, .slice (some ⟨y, 0, none⟩) (b.drop 1).length cy), (7, .int .u8 ((lo) : Int)), (8, .int .u8 ((hi) : Int)), (6, .int .i64 (n : Int)), (5, str b), (4, .int .i64 (k : Int)), (0, str l)] ?_ ?_ (fun j r ds m' H' => ∃ i lo' hi', j = (b.drop 1).length - i ∧ r = [(58, .int .i64 (i : Int)), (57, .int .i64 ((b.drop 1).length : Int)), (56, .slice (some ⟨y, 0, none⟩) (b.drop 1).length cy), (7, .int .u8 (lo' : Int)), (8, .int .u8 (hi' : Int)), (6, .int .i64 (n : Int)), (5, str b), (4, .int .i64 (k : Int)), (0, str l)] ∧ ds = [] ∧ m = m' ∧ H' = .row (some ⟨y, 0, none⟩) cy 5 1 ((b.drop 1).map fun b => [Value.int .u8 (b.toNat : Int)]) :: H ∧ (i ≤ (b.drop 1).length) ∧ ((i = 0 → lo' = lo ∧ hi' = hi) ∧ (0 < i → lo' = 128 ∧ hi' = 191)) ∧ ((0 < i → loN x ≤ nb b 1 ∧ nb b 1 ≤ hiN x) ∧ (1 < i → 128 ≤ nb b 2 ∧ nb b 2 ≤ 191))) ((b.drop 1).length - (0)) ⟨0, lo, hi, rfl, rfl, rfl, rfl, rfl, by omega, by simp, by omega⟩ ?_
      · (repeat (first | exact Env.Sub.nil | refine Env.Sub.cons rfl ?_))
      · exact (fun w h => Pick.sat (by iterate 60 (try (first | exact Pick.all | (apply Pick.take; (· (repeat (first | exact Out.here | apply Out.there)))) | apply Pick.drop))) h)
      rintro j r ds m' H' ⟨i, lo', hi', rfl, rfl, rfl, rfl, rfl, hi1, hlh, hok⟩
      by_cases hlt : i < (b.drop 1).length
      · obtain ⟨u, hu, hget, htk, hmem, hdr⟩ := at_idx (f := fun b : UInt8 => [Value.int .u8 (b.toNat : Int)]) hlt
        have hub : u.toNat = nb b (i + 1) := by
          have : b[1 + i]? = some u := by rw [← hu, List.getElem?_drop]
          simp only [nb, gb, List.getD_eq_getElem?_getD]
          rw [show i + 1 = 1 + i by omega, this]; rfl
        generalize hv : u.toNat = v at *
        by_cases q1 : v < lo'
        · have hnb : ¬ begOk b := fun h => by
            have := (hbg.1 h).2
            rcases (show i = 0 ∨ i = 1 by omega) with rfl | rfl
            · have h1 := hlh.1 rfl; have h2 := this.1 (by omega); simp at hub; omega
            · have h1 := hlh.2 (by omega); have h2 := this.2 (by omega); simp at hub; omega
          (try (refine st ?_; intros))
          refine WQ.next (4 - (k + 1)) ⟨k + 1, rfl, rfl, rfl, rfl, rfl, ?_, ?_⟩ (by omega) (by (repeat (first | exact Env.Sub.nil | refine Env.Sub.cons rfl ?_))) (fun w h => Pick.sat (by iterate 60 (try (first | exact Pick.all | (apply Pick.take; (· (repeat (first | exact Out.here | apply Out.there)))) | apply Pick.drop))) h)
          · omega
          · rw [hbk, htn hnb]
        by_cases q2 : hi' < v
        · have hnb : ¬ begOk b := fun h => by
            have := (hbg.1 h).2
            rcases (show i = 0 ∨ i = 1 by omega) with rfl | rfl
            · have h1 := hlh.1 rfl; have h2 := this.1 (by omega); simp at hub; omega
            · have h1 := hlh.2 (by omega); have h2 := this.2 (by omega); simp at hub; omega
          (try (refine st ?_; intros))
          refine WQ.next (4 - (k + 1)) ⟨k + 1, rfl, rfl, rfl, rfl, rfl, ?_, ?_⟩ (by omega) (by (repeat (first | exact Env.Sub.nil | refine Env.Sub.cons rfl ?_))) (fun w h => Pick.sat (by iterate 60 (try (first | exact Pick.all | (apply Pick.take; (· (repeat (first | exact Out.here | apply Out.there)))) | apply Pick.drop))) h)
          · omega
          · rw [hbk, htn hnb]
        (try (refine st ?_; intros))
        refine WQ.next ((b.drop 1).length - (i + 1)) ⟨i + 1, 128, 191, rfl, rfl, rfl, rfl, rfl, ?_, ?_, ?_⟩ (by omega) (by (repeat (first | exact Env.Sub.nil | refine Env.Sub.cons rfl ?_))) (fun w h => Pick.sat (by iterate 60 (try (first | exact Pick.all | (apply Pick.take; (· (repeat (first | exact Out.here | apply Out.there)))) | apply Pick.drop))) h)
        · omega
        · omega
        · rcases (show i = 0 ∨ i = 1 by omega) with rfl | rfl
          · have h1 := hlh.1 rfl; simp at hub; omega
          · have h1 := hlh.2 (by omega); simp at hub; omega
      · have hb1 : begOk b := hbg.2 ⟨by omega, fun h => hok.1 (by omega), fun h => hok.2 (by omega)⟩
        have hlk : lackOf b = n - k := by unfold lackOf; rw [if_pos hb1, hbl, show nb b 0 = x from hx, hn]
        (try (refine st ?_; intros))
        (refine q_fin0 ?_)
        refine Gives.mk ?_
        rw [hbk, hty hb1, hlk, show ((n - k : Nat) : Int) = (n : Int) - (k : Int) by omega]
    · have he := begun_end (l := l) hk.1 (fun _ => by omega)
      (try (refine st ?_; intros))
      (refine q_fin0 ?_)
      exact Gives.mk (by rw [hbk, he]; rfl)
  · have he := begun_end (l := l) hk.1 (fun h => absurd h hk3)
    (try (refine st ?_; intros))
    (refine q_fin0 ?_)
    exact Gives.mk (by rw [hbk, he]; rfl)
end Go.Proofs.Ytdmdabjaboigcaa

/-
  The walks of the reference's lacks, of Wants, and of the law RunesJoins. No condition.
-/
namespace Go.Proofs.Ytdmdabjaboigcaa
open Go Go.Eng
set_option maxRecDepth 100000
set_option maxHeartbeats 4000000
set_option linter.all false
attribute [local irreducible] WL WC WQ QFun QLoop Does Q1 QRound QAssign Go.Addr.add
theorem formN_two {l : List UInt8} {n : Nat} (h : 2 ≤ n) : (formN l).2 = n ↔ (dl l).2 = n := by
  unfold formN
  split
  · rename_i h1; rw [h1]; exact ⟨fun h2 => absurd h2 (by simp; omega), fun h2 => absurd h2 (by simp; omega)⟩
  · exact Iff.rfl
theorem refN_cases (c : Nat) : refN c = 0 ∨ 2 ≤ refN c ∧ refN c ≤ 4 := by
  unfold refN; split
  · omega
  · split
    · omega
    · split <;> omega
theorem form_0 (l : List UInt8) (hl : l.length ≤ 9223372036854775804) (hk : 0 < l.length) (w0 : World) (m : Mem) (H : SHeap) :
    Does Try.prog 68 #[str l, .int .i64 0] w0 m H (Gives (.tuple #[.int .i32 ((formN l).1 : Int), .int .i64 ((formN l).2 : Int)]) m H) := form_any l 0 hl hk w0 m H
attribute [local irreducible] formN padded dl
theorem sq_R32_1 {G : Prop} (h : G := by (repeat (first | (refine sp ?_; (repeat intro zzc)) | (refine iF 68 rfl ?_; refine w_callG Try.func68 ?_ (hs := form_0 _ (by omega) (by omega) _ _ _)))); exact WQ.q1 rfl) : G := h
theorem st_R32_1 {G G' : Prop} (next : G') (h : Bx G' → G := by intro zzn; (first | ((refine st ?_; (repeat intro zzc)); (try ((first | (refine iF 68 rfl ?_; refine w_callG Try.func68 ?_ (hs := form_0 _ (by omega) (by omega) _ _ _)) | ((refine iDraw ?_; (first | refine WC.drawAll rfl (by decide +kernel) ?_ | refine WC.draw 1 rfl (by decide +kernel) ?_ | refine WC.draw 2 rfl (by decide +kernel) ?_ | refine WC.draw 3 rfl (by decide +kernel) ?_ | refine WC.draw 4 rfl (by decide +kernel) ?_ | refine WC.draw 5 rfl (by decide +kernel) ?_ | refine WC.draw 6 rfl (by decide +kernel) ?_ | refine WC.draw 7 rfl (by decide +kernel) ?_ | refine WC.draw 8 rfl (by decide +kernel) ?_ | refine WC.draw 9 rfl (by decide +kernel) ?_ | refine WC.draw 10 rfl (by decide +kernel) ?_ | refine WC.draw 11 rfl (by decide +kernel) ?_ | refine WC.draw 12 rfl (by decide +kernel) ?_ | refine WC.draw 13 rfl (by decide +kernel) ?_ | refine WC.draw 14 rfl (by decide +kernel) ?_ | refine WC.draw 15 rfl (by decide +kernel) ?_ | refine WC.draw 16 rfl (by decide +kernel) ?_ | refine WC.draw 17 rfl (by decide +kernel) ?_ | refine WC.draw 18 rfl (by decide +kernel) ?_ | refine WC.draw 19 rfl (by decide +kernel) ?_ | refine WC.draw 20 rfl (by decide +kernel) ?_ | refine WC.draw 21 rfl (by decide +kernel) ?_ | refine WC.draw 22 rfl (by decide +kernel) ?_ | refine WC.draw 23 rfl (by decide +kernel) ?_ | refine WC.draw 24 rfl (by decide +kernel) ?_)); (repeat (refine WD.cons rfl (fun c h => by cases h) sq_R32_1 ?_)); refine WD.nil ?_)); (try (refine st ?_; (repeat intro zzc)))))) | ((first | (refine iF 68 rfl ?_; refine w_callG Try.func68 ?_ (hs := form_0 _ (by omega) (by omega) _ _ _)) | ((refine iDraw ?_; (first | refine WC.drawAll rfl (by decide +kernel) ?_ | refine WC.draw 1 rfl (by decide +kernel) ?_ | refine WC.draw 2 rfl (by decide +kernel) ?_ | refine WC.draw 3 rfl (by decide +kernel) ?_ | refine WC.draw 4 rfl (by decide +kernel) ?_ | refine WC.draw 5 rfl (by decide +kernel) ?_ | refine WC.draw 6 rfl (by decide +kernel) ?_ | refine WC.draw 7 rfl (by decide +kernel) ?_ | refine WC.draw 8 rfl (by decide +kernel) ?_ | refine WC.draw 9 rfl (by decide +kernel) ?_ | refine WC.draw 10 rfl (by decide +kernel) ?_ | refine WC.draw 11 rfl (by decide +kernel) ?_ | refine WC.draw 12 rfl (by decide +kernel) ?_ | refine WC.draw 13 rfl (by decide +kernel) ?_ | refine WC.draw 14 rfl (by decide +kernel) ?_ | refine WC.draw 15 rfl (by decide +kernel) ?_ | refine WC.draw 16 rfl (by decide +kernel) ?_ | refine WC.draw 17 rfl (by decide +kernel) ?_ | refine WC.draw 18 rfl (by decide +kernel) ?_ | refine WC.draw 19 rfl (by decide +kernel) ?_ | refine WC.draw 20 rfl (by decide +kernel) ?_ | refine WC.draw 21 rfl (by decide +kernel) ?_ | refine WC.draw 22 rfl (by decide +kernel) ?_ | refine WC.draw 23 rfl (by decide +kernel) ?_ | refine WC.draw 24 rfl (by decide +kernel) ?_)); (repeat (refine WD.cons rfl (fun c h => by cases h) sq_R32_1 ?_)); refine WD.nil ?_)); (try (refine st ?_; (repeat intro zzc))))); (repeat ((first | (refine iF 68 rfl ?_; refine w_callG Try.func68 ?_ (hs := form_0 _ (by omega) (by omega) _ _ _)) | ((refine iDraw ?_; (first | refine WC.drawAll rfl (by decide +kernel) ?_ | refine WC.draw 1 rfl (by decide +kernel) ?_ | refine WC.draw 2 rfl (by decide +kernel) ?_ | refine WC.draw 3 rfl (by decide +kernel) ?_ | refine WC.draw 4 rfl (by decide +kernel) ?_ | refine WC.draw 5 rfl (by decide +kernel) ?_ | refine WC.draw 6 rfl (by decide +kernel) ?_ | refine WC.draw 7 rfl (by decide +kernel) ?_ | refine WC.draw 8 rfl (by decide +kernel) ?_ | refine WC.draw 9 rfl (by decide +kernel) ?_ | refine WC.draw 10 rfl (by decide +kernel) ?_ | refine WC.draw 11 rfl (by decide +kernel) ?_ | refine WC.draw 12 rfl (by decide +kernel) ?_ | refine WC.draw 13 rfl (by decide +kernel) ?_ | refine WC.draw 14 rfl (by decide +kernel) ?_ | refine WC.draw 15 rfl (by decide +kernel) ?_ | refine WC.draw 16 rfl (by decide +kernel) ?_ | refine WC.draw 17 rfl (by decide +kernel) ?_ | refine WC.draw 18 rfl (by decide +kernel) ?_ | refine WC.draw 19 rfl (by decide +kernel) ?_ | refine WC.draw 20 rfl (by decide +kernel) ?_ | refine WC.draw 21 rfl (by decide +kernel) ?_ | refine WC.draw 22 rfl (by decide +kernel) ?_ | refine WC.draw 23 rfl (by decide +kernel) ?_ | refine WC.draw 24 rfl (by decide +kernel) ?_)); (repeat (refine WD.cons rfl (fun c h => by cases h) sq_R32_1 ?_)); refine WD.nil ?_)); (try (refine st ?_; (repeat intro zzc))))); (repeat revert zzc); exact zzn.out) : G := h ⟨next⟩
theorem lacks_any (b : List UInt8) (h0 : 0 < b.length) (hl : b.length ≤ 1048576) (w0 : World) (m : Mem) (H : SHeap) :
    Does Try.prog 81 #[str b] w0 m H (Gives (.int .i64 (lackOf b : Int)) m H) := by
  refine Does.of_body (args := [str b]) Try.func81 rfl Try.ntmps81 rfl ?_
  have hc0 := nb_lt b 0
  generalize hx : gb b 0 = x at hc0
  have hx' : nb b 0 = x := hx
  (try (refine st_R32_1 ?_; intros))
  rw [hx]
  (try (refine st_R32_1 ?_; intros))
  refine WC.join (fun r' ds' m' H' => ∃ n : Nat, n = refN x ∧ r' = [(3, .int .i64 (n : Int)), (0, str b)] ∧ ds' = [] ∧ m' = m ∧ H' = H) ?_ ?_
  · by_cases g1 : 240 ≤ x
    · (try (refine st_R32_1 ?_; intros))
      exact WQ.join ⟨4, by simp [refN, g1], rfl, rfl, rfl, rfl⟩ (by (repeat (first | exact Env.Sub.nil | refine Env.Sub.cons rfl ?_))) (fun w h => Pick.sat (by iterate 60 (try (first | exact Pick.all | (apply Pick.take; (· (repeat (first | exact Out.here | apply Out.there)))) | apply Pick.drop))) h)
    by_cases g2 : 224 ≤ x
    · (try (refine st_R32_1 ?_; intros))
      exact WQ.join ⟨3, by simp [refN, g1, g2], rfl, rfl, rfl, rfl⟩ (by (repeat (first | exact Env.Sub.nil | refine Env.Sub.cons rfl ?_))) (fun w h => Pick.sat (by iterate 60 (try (first | exact Pick.all | (apply Pick.take; (· (repeat (first | exact Out.here | apply Out.there)))) | apply Pick.drop))) h)
    by_cases g3 : 192 ≤ x
    · (try (refine st_R32_1 ?_; intros))
      exact WQ.join ⟨2, by simp [refN, g1, g2, g3], rfl, rfl, rfl, rfl⟩ (by (repeat (first | exact Env.Sub.nil | refine Env.Sub.cons rfl ?_))) (fun w h => Pick.sat (by iterate 60 (try (first | exact Pick.all | (apply Pick.take; (· (repeat (first | exact Out.here | apply Out.there)))) | apply Pick.drop))) h)
    (try (refine st_R32_1 ?_; intros))
    exact WQ.join ⟨0, by simp [refN, g1, g2, g3], rfl, rfl, rfl, rfl⟩ (by (repeat (first | exact Env.Sub.nil | refine Env.Sub.cons rfl ?_))) (fun w h => Pick.sat (by iterate 60 (try (first | exact Pick.all | (apply Pick.take; (· (repeat (first | exact Out.here | apply Out.there)))) | apply Pick.drop))) h)
  rintro _ _ m H ⟨n, hn, rfl, rfl, rfl, rfl⟩
  have hnc := refN_cases x
  rw [← hn] at hnc
  by_cases hbn : n ≤ b.length
  · have hlk : lackOf b = 0 := lack_long (by rw [hx', ← hn]; omega)
    (try (refine st_R32_1 ?_; intros))
    (refine q_fin0 ?_)
    exact Gives.mk (by rw [hlk]; rfl)
  have hlp := lack_pad h0 (by rw [hx', ← hn]; omega)
  rw [hx', ← hn] at hlp
  (refine st_R32_1 ?_; intros; rename_i q)
  refine WC.blkRow (sz := 1) (es := ([128, 191] : List UInt8).map bV) (by (repeat (first | exact Out.here | apply Out.there))) rfl (by simp [bV]) ?_
  refine WC.loopH [(27, .int .i64 ((0) : Int)), (26, .int .i64 2), (25, .slice (some ⟨q, 0, none⟩) 2 2), (3, .int .i64 (n : Int)), (0, str b)] ?_ ?_ (fun j r ds m' H' => ∃ i, j = 2 - i ∧ r = [(27, .int .i64 (i : Int)), (26, .int .i64 2), (25, .slice (some ⟨q, 0, none⟩) 2 2), (3, .int .i64 (n : Int)), (0, str b)] ∧ ds = [] ∧ m = m' ∧ H' = .row (some ⟨q, 0, none⟩) (([128, 191] : List UInt8).map bV).length 5 1 (([128, 191] : List UInt8).map bV) :: H ∧ (i ≤ ([128, 191] : List UInt8).length) ∧ (∀ c ∈ ([128, 191] : List UInt8).take i, (dl (padded b c)).2 ≠ n)) (2 - (0)) ⟨0, rfl, rfl, rfl, rfl, rfl, by simp, by simp⟩ ?_
  · (repeat (first | exact Env.Sub.nil | refine Env.Sub.cons rfl ?_))
  · exact (fun w h => Pick.sat (by iterate 60 (try (first | exact Pick.all | (apply Pick.take; (· (repeat (first | exact Out.here | apply Out.there)))) | apply Pick.drop))) h)
  rintro j r ds m' H' ⟨i, rfl, rfl, rfl, rfl, rfl, hi, hno⟩
  have h2 : ([128, 191] : List UInt8).length = 2 := rfl
  by_cases hlt : i < ([128, 191] : List UInt8).length
  · obtain ⟨c, hc, hget, htk, hmem, hdr⟩ := at_idx (f := bV) hlt
    (refine st_R32_1 ?_; intros; rename_i y cy)
    refine WC.loopH [(6, .slice (some ⟨y, 0, none⟩) (b.length + (0)) (cy)), (5, .int .u8 (c.toNat : Int)), (27, .int .i64 (i : Int)), (26, .int .i64 2), (25, .slice (some ⟨q, 0, none⟩) 2 2), (3, .int .i64 (n : Int)), (0, str b)] ?_ ?_ (fun j r ds m' H' => ∃ k a2 c2 S, j = n - k ∧ r = [(6, .slice a2 (b.length + k) c2), (5, .int .u8 (c.toNat : Int)), (27, .int .i64 (i : Int)), (26, .int .i64 2), (25, .slice (some ⟨q, 0, none⟩) 2 2), (3, .int .i64 (n : Int)), (0, str b)] ∧ ds = [] ∧ m = m' ∧ H' = .row a2 c2 5 1 (S.map fun b => [Value.int .u8 (b.toNat : Int)]) :: .row (some ⟨q, 0, none⟩) (([128, 191] : List UInt8).map bV).length 5 1 (([128, 191] : List UInt8).map bV) :: H ∧ (b.length + k ≤ n) ∧ (S = b ++ List.replicate k c)) (n - (0)) ⟨0, some ⟨y, 0, none⟩, cy, b, rfl, rfl, rfl, rfl, rfl, by omega, by simp⟩ ?_
    · (repeat (first | exact Env.Sub.nil | refine Env.Sub.cons rfl ?_))
    · exact (fun w h => Pick.sat (by iterate 60 (try (first | exact Pick.all | (apply Pick.take; (· (repeat (first | exact Out.here | apply Out.there)))) | apply Pick.drop))) h)
    rintro j r ds m' H' ⟨k, a2, c2, S, rfl, rfl, rfl, rfl, rfl, hk, hS⟩
    have hSl : S.length = b.length + k := by rw [hS]; simp
    have hbk : (S.map fun b => [Value.int .u8 (b.toNat : Int)]).length = b.length + k := by simp [hSl]
    by_cases hkn : b.length + k < n
    · have em : (S.map fun b => [Value.int .u8 (b.toNat : Int)]) ++ [[Value.int .u8 (c.toNat : Int)]] = (S ++ [c]).map fun b => [Value.int .u8 (b.toNat : Int)] := by simp
      (refine st_R32_1 ?_; intros; rename_i a3 c3)
      rw [em, hbk]
      refine WQ.next (n - (k + 1)) ⟨k + 1, a3, c3, S ++ [c], rfl, rfl, rfl, rfl, rfl, ?_, ?_⟩ (by omega) (by (repeat (first | exact Env.Sub.nil | refine Env.Sub.cons rfl ?_))) (fun w h => Pick.sat (by iterate 60 (try (first | exact Pick.all | (apply Pick.take; (· (repeat (first | exact Out.here | apply Out.there)))) | apply Pick.drop))) h)
      · omega
      · rw [hS, List.append_assoc, List.replicate_succ']
    · have e : S = padded b c := by rw [hS, padded, hx', ← hn, show n - b.length = k by omega]
      (try (refine st_R32_1 ?_; intros))
      refine WL.rowStr (s := S) rfl hSl.symm (by (repeat (first | exact List.Mem.head _ | apply List.Mem.tail))) rfl rfl rfl rfl rfl ?_
      rw [e]
      have hpl : 0 < (padded b c).length := by rw [← e]; omega
      have hpl2 : (padded b c).length ≤ 2000000 := by rw [← e]; omega
      by_cases hd : (formN (padded b c)).2 = n
      · have hdl := (formN_two (n := n) (by omega)).1 hd
        have hlk : lackOf b = n - b.length := by
          rw [hlp, if_pos]
          rcases List.mem_cons.1 hmem with rfl | hm
          · exact .inl hdl
          · rcases List.mem_cons.1 hm with rfl | hm
            · exact .inr hdl
            · simp at hm
        (try (refine st_R32_1 ?_; intros))
        (refine q_fin0 ?_)
        refine Gives.mk ?_
        rw [hlk, show ((n - b.length : Nat) : Int) = (n : Int) - (b.length : Int) by omega]
      · have hdl := fun h => hd ((formN_two (n := n) (by omega)).2 h)
        (try (refine st_R32_1 ?_; intros))
        refine WQ.next (2 - (i + 1)) ⟨i + 1, rfl, rfl, rfl, rfl, rfl, ?_, ?_⟩ (by omega) (by (repeat (first | exact Env.Sub.nil | refine Env.Sub.cons rfl ?_))) (fun w h => Pick.sat (by iterate 60 (try (first | exact Pick.all | (apply Pick.take; (· (repeat (first | exact Out.here | apply Out.there)))) | apply Pick.drop))) h)
        · omega
        · rw [htk]; intro u hu
          rcases List.mem_append.1 hu with h | h
          · exact hno u h
          · simp at h; subst h; exact hdl
  · (try (refine st_R32_1 ?_; intros))
    (refine q_fin0 ?_)
    refine Gives.mk ?_
    rw [hlp, if_neg]
    · rfl
    · obtain rfl : i = 2 := by omega
      rintro (h | h)
      · exact hno 128 (by simp) h
      · exact hno 191 (by simp) h
end Go.Proofs.Ytdmdabjaboigcaa

/-
  The walks of package runes and of its reference, eleventh part: the boundaries next to a place, and the law. No condition.
-/
namespace Go.Proofs.Ytdmdabjaboigcaa
open Go Go.Eng
set_option maxRecDepth 100000
set_option maxHeartbeats 4000000
set_option linter.all false
attribute [local irreducible] WL WC WQ QFun QLoop Does Q1 QRound QAssign Go.Addr.add
theorem refAround_any (l : List UInt8) (k : Nat) (hl : l.length ≤ 5000000000000) (hk : k ≤ l.length) (w0 : World) (m : Mem) (H : SHeap) :
    Does Try.prog 31 #[str l, .int .i64 (k : Int)] w0 m H (Gives (spanV (leOf k (endsOf l) 0) (geOf k (endsOf l) 0)) m H) := by
  refine Does.of_body (args := [str l, .int .i64 (k : Int)]) Try.func31 rfl Try.ntmps31 rfl ?_
  have hel := ends_length l
  have hem : ((endsOf l).map iV).length = (endsOf l).length := by simp
  (try (refine st ?_; intros))
  refine w_callF Try.func71 ?_ (hs := refEnds_any _ hl _ _ _)
  rintro _ m H1 ⟨a, cap, rfl, rfl, rfl⟩
  (refine st ?_; intros; rename_i b4 bk)
  refine WC.loopW [(14, .int .i64 0), (13, .int .i64 (((endsOf l).map iV).length : Int)), (12, .slice a ((endsOf l).map iV).length cap), (6, .slice a ((endsOf l).map iV).length cap), (1, .int .i64 (k : Int)), (5, .pointer (some ⟨bk, 0, none⟩)), (4, .pointer (some ⟨b4, 0, none⟩))] ?_
    (fun j r ds m' H' => ∃ i, j = (endsOf l).length - i ∧ i ≤ (endsOf l).length ∧ r = [(14, .int .i64 (i : Int)), (13, .int .i64 (((endsOf l).map iV).length : Int)), (12, .slice a ((endsOf l).map iV).length cap), (6, .slice a ((endsOf l).map iV).length cap), (1, .int .i64 (k : Int)), (5, .pointer (some ⟨bk, 0, none⟩)), (4, .pointer (some ⟨b4, 0, none⟩))] ∧ ds = [] ∧ m' = m ∧
      H' = .row a cap 3 1 ((endsOf l).map iV) :: .blk bk (.cells [.int .i64 (leOf k ((endsOf l).take i) 0 : Int), .int .i64 0].toArray 42 (0, 0)) :: .blk b4 (.cells [.int .i64 0, .int .i64 0].toArray 42 (0, 0)) :: H) (endsOf l).length ⟨0, rfl, by omega, rfl, rfl, rfl, rfl⟩ ?_
  · (repeat (first | exact Env.Sub.nil | refine Env.Sub.cons rfl ?_))
  rintro j r ds m' H' ⟨i, rfl, hi, rfl, rfl, rfl, rfl⟩
  by_cases hlt : i < (endsOf l).length
  · have hget : ((endsOf l).map iV)[i]? = some [.int .i64 (((endsOf l)[i] : Nat) : Int)] := by rw [List.getElem?_map, List.getElem?_eq_getElem hlt]; rfl
    have htk := List.take_succ_eq_append_getElem hlt
    generalize hp : (endsOf l)[i] = p at hget htk
    refine WC.rowSome (a := a) (by (repeat (first | exact List.Mem.head _ | apply List.Mem.tail))) (by omega) ?_
    rintro a0 rfl
    (try (refine st ?_; intros))
    (first | refine c_ways (fun h1 => ?_) (fun h1 => ?_) | refine c_nways (fun h1 => ?_) (fun h1 => ?_) | refine w_gways (fun h1 => ?_) (fun h1 => ?_) | refine w_gnways (fun h1 => ?_) (fun h1 => ?_))
    · (try (refine st ?_; intros))
      refine WQ.next ((endsOf l).length - (i + 1)) ⟨i + 1, rfl, by omega, rfl, rfl, rfl, rfl⟩ (by omega) (by (repeat (first | exact Env.Sub.nil | refine Env.Sub.cons rfl ?_))) ?_
      rw [htk, leOf_append, leOf, if_pos (by omega)]
      exact fun w h => h
    · (try (refine st ?_; intros))
      refine WQ.next ((endsOf l).length - (i + 1)) ⟨i + 1, rfl, by omega, rfl, rfl, rfl, rfl⟩ (by omega) (by (repeat (first | exact Env.Sub.nil | refine Env.Sub.cons rfl ?_))) ?_
      rw [htk, leOf_append, leOf, if_neg (by omega)]
      exact fun w h => h
  · obtain rfl : i = (endsOf l).length := by omega
    rw [List.take_length]
    (try (refine st ?_; intros))
    refine WC.loopW [(9, .int .i64 ((((endsOf l).map iV).length : Int) - 1)), (6, .slice a ((endsOf l).map iV).length cap), (1, .int .i64 (k : Int)), (5, .pointer (some ⟨bk, 0, none⟩)), (4, .pointer (some ⟨b4, 0, none⟩))] ?_
      (fun j r ds m1 H1 => j ≤ (endsOf l).length ∧ r = [(9, .int .i64 ((j : Int) - 1)), (6, .slice a ((endsOf l).map iV).length cap), (1, .int .i64 (k : Int)), (5, .pointer (some ⟨bk, 0, none⟩)), (4, .pointer (some ⟨b4, 0, none⟩))] ∧ ds = [] ∧ m1 = m' ∧
        H1 = .row a cap 3 1 ((endsOf l).map iV) :: .blk bk (.cells [.int .i64 (leOf k (endsOf l) 0 : Int), .int .i64 (geOf k ((endsOf l).drop j) 0 : Int)].toArray 42 (0, 0)) :: .blk b4 (.cells [.int .i64 0, .int .i64 0].toArray 42 (0, 0)) :: H) (endsOf l).length ⟨by omega, by rw [hem], rfl, rfl, by rw [List.drop_length]; rfl⟩ ?_
    · (repeat (first | exact Env.Sub.nil | refine Env.Sub.cons rfl ?_))
    rintro j r ds m1 H1 ⟨hj, rfl, rfl, rfl, rfl⟩
    by_cases hj1 : 1 ≤ j
    · obtain ⟨i, rfl⟩ : ∃ i, j = i + 1 := ⟨j - 1, by omega⟩
      have hget : ((endsOf l).map iV)[i]? = some [.int .i64 (((endsOf l)[i] : Nat) : Int)] := by rw [List.getElem?_map, List.getElem?_eq_getElem (by omega)]; rfl
      have hdr := List.drop_eq_getElem_cons (show i < (endsOf l).length by omega)
      generalize hp : (endsOf l)[i] = p at hget hdr
      refine WC.rowSome (a := a) (by (repeat (first | exact List.Mem.head _ | apply List.Mem.tail))) (by omega) ?_
      rintro a0 rfl
      refine WC.rename 9 (u := .int .i64 (i : Int)) rfl (vi (by omega)) ?_
      (try (refine st ?_; intros))
      (first | refine c_ways (fun h1 => ?_) (fun h1 => ?_) | refine c_nways (fun h1 => ?_) (fun h1 => ?_) | refine w_gways (fun h1 => ?_) (fun h1 => ?_) | refine w_gnways (fun h1 => ?_) (fun h1 => ?_))
      · (try (refine st ?_; intros))
        refine WQ.next i ⟨by omega, rfl, rfl, rfl, rfl⟩ (by omega) (by (repeat (first | exact Env.Sub.nil | refine Env.Sub.cons rfl ?_))) ?_
        rw [hdr, geOf, if_pos (by omega)]
        exact fun w h => h
      · (try (refine st ?_; intros))
        refine WQ.next i ⟨by omega, rfl, rfl, rfl, rfl⟩ (by omega) (by (repeat (first | exact Env.Sub.nil | refine Env.Sub.cons rfl ?_))) ?_
        rw [hdr, geOf, if_neg (by omega)]
        exact fun w h => h
    · obtain rfl : j = 0 := by omega
      (try (refine st ?_; intros))
      (refine q_fin0 ?_)
      exact Gives.mk rfl
end Go.Proofs.Ytdmdabjaboigcaa

/-
  The walks of package runes, twelfth part: the law RunesBoundaries. No condition.
-/
namespace Go.Proofs.Ytdmdabjaboigcaa
open Go Go.Eng
set_option maxRecDepth 100000
set_option maxHeartbeats 4000000
set_option linter.all false
attribute [local irreducible] WL WC WQ QFun QLoop Does Q1 QRound QAssign Go.Addr.add
theorem eq_span (a b a' b' : Int) : eqB Try.prog 8 42 (.agg #[.int .i64 a, .int .i64 b]) (.agg #[.int .i64 a', .int .i64 b']) = some (dcd (a = a' ∧ b = b')) := by
  have h : eqB Try.prog 8 42 (.agg #[.int .i64 a, .int .i64 b]) (.agg #[.int .i64 a', .int .i64 b']) = some (a == a' && (b == b' && true)) := by kernel_rfl
  rw [h]
  by_cases hp : a = a' ∧ b = b'
  · rw [dcd_true hp]; obtain ⟨rfl, rfl⟩ := hp; simp
  · rw [dcd_false hp]
    simp only [Bool.and_true, Option.some.injEq, Bool.and_eq_false_iff, beq_eq_false_iff_ne]
    by_cases h1 : a = a' <;> by_cases h2 : b = b' <;> simp_all
theorem refB_yes (l : List UInt8) {z : Int} (k : Nat) (hz : z = (k : Int)) (hl : l.length ≤ 5000000000000) (hk : k ≤ l.length) (h : ¬ ∃ i, Within l k i) (w0 : World) (m : Mem) (H : SHeap) :
    Does Try.prog 30 #[str l, .int .i64 z] w0 m H (Gives (.bool true) m H) := by
  subst hz
  have := refBound_any l k hl w0 m H
  rwa [dcd_true ⟨k, (mem_ends hk).2 h, rfl⟩] at this
theorem refB_no (l : List UInt8) {z : Int} (k i : Nat) (hz : z = (k : Int)) (hl : l.length ≤ 5000000000000) (hk : k ≤ l.length) (h : Within l k i) (w0 : World) (m : Mem) (H : SHeap) :
    Does Try.prog 30 #[str l, .int .i64 z] w0 m H (Gives (.bool false) m H) := by
  subst hz
  have := refBound_any l k hl w0 m H
  rwa [dcd_false (fun ⟨x, hx, e⟩ => (mem_ends hk).1 (by rwa [show k = x by omega]) ⟨i, h⟩)] at this
theorem refB_out (l : List UInt8) (k : Int) (hl : l.length ≤ 5000000000000) (h : k < 0 ∨ (l.length : Int) < k) (w0 : World) (m : Mem) (H : SHeap) :
    Does Try.prog 30 #[str l, .int .i64 k] w0 m H (Gives (.bool false) m H) := by
  have := refBound_any l k hl w0 m H
  rwa [dcd_false (fun ⟨x, hx, e⟩ => by have := ends_le hx; omega)] at this
theorem refA_yes (l : List UInt8) {z : Int} (k i : Nat) (hz : z = (k : Int)) (hl : l.length ≤ 5000000000000) (hk : k ≤ l.length) (h : Within l k i) (w0 : World) (m : Mem) (H : SHeap) :
    Does Try.prog 31 #[str l, .int .i64 z] w0 m H (Gives (spanV i (i + (readP l i).w)) m H) := by
  subst hz
  have := refAround_any l k hl hk w0 m H
  rw [(around_within hk h).1, (around_within hk h).2] at this
  exact this
theorem refA_no (l : List UInt8) {z : Int} (k : Nat) (hz : z = (k : Int)) (hl : l.length ≤ 5000000000000) (hk : k ≤ l.length) (h : ¬ ∃ i, Within l k i) (w0 : World) (m : Mem) (H : SHeap) :
    Does Try.prog 31 #[str l, .int .i64 z] w0 m H (Gives (spanV k k) m H) := by
  subst hz
  have := refAround_any l k hl hk w0 m H
  rw [(around_bound hk h).1, (around_bound hk h).2] at this
  exact this
theorem around_yes_z (l : List UInt8) {z : Int} (k i : Nat) (hz : z = (k : Int)) (hl : l.length ≤ 9223372036854775804) (hk : k ≤ l.length) (h : Within l k i) (w0 : World) (m : Mem) (H : SHeap) :
    Does Try.prog 28 #[str l, .int .i64 z] w0 m H (Gives (.tuple #[spanV i (i + (readP l i).w), .int .i64 0]) m H) := by subst hz; exact around_yes l k i hl hk h w0 m H
theorem around_no_z (l : List UInt8) {z : Int} (k : Nat) (hz : z = (k : Int)) (hl : l.length ≤ 9223372036854775804) (hk : k ≤ l.length) (h : ¬ ∃ i, Within l k i) (w0 : World) (m : Mem) (H : SHeap) :
    Does Try.prog 28 #[str l, .int .i64 z] w0 m H (Gives (.tuple #[spanV k k, .int .i64 0]) m H) := by subst hz; exact around_no l k hl hk h w0 m H
theorem bound_yes_z (l : List UInt8) {z : Int} (k : Nat) (hz : z = (k : Int)) (hl : l.length ≤ 9223372036854775804) (hk : k ≤ l.length) (h : ¬ ∃ i, Within l k i) (w0 : World) (m : Mem) (H : SHeap) :
    Does Try.prog 29 #[str l, .int .i64 z] w0 m H (Gives (.bool true) m H) := by subst hz; exact bound_yes l k hl hk h w0 m H
theorem bound_no_z (l : List UInt8) {z : Int} (k i : Nat) (hz : z = (k : Int)) (hl : l.length ≤ 9223372036854775804) (hk : k ≤ l.length) (h : Within l k i) (w0 : World) (m : Mem) (H : SHeap) :
    Does Try.prog 29 #[str l, .int .i64 z] w0 m H (Gives (.bool false) m H) := by subst hz; exact bound_no l k i hl hk h w0 m H
theorem sq_R12_1 {G : Prop} (h : G := by (repeat (first | (refine sp ?_; (repeat intro zzc)) | (refine iB_eql rfl ?_; refine w_eqlV ?_ (he := eq_span _ _ _ _)) | (refine iB_neq rfl ?_; refine w_neqV ?_ (he := eq_span _ _ _ _)) | (refine iF 15 rfl ?_; refine w_callG Try.func15 ?_ (hs := wakes_any _ _ _)) | (refine iF 28 rfl ?_; refine w_callG Try.func28 ?_ (hs := around_yes_z _ _ _ (by (first | with_reducible exact natz _ | with_reducible exact natz0 | with_reducible exact natz1 | with_reducible exact natz2 | with_reducible exact natz3 | with_reducible exact natz4 | with_reducible exact natz8 | (apply natz_add; (· first | with_reducible exact natz _ | with_reducible exact natz0 | with_reducible exact natz1 | with_reducible exact natz2 | with_reducible exact natz3 | with_reducible exact natz4 | with_reducible exact natz8); (· first | with_reducible exact natz _ | with_reducible exact natz0 | with_reducible exact natz1 | with_reducible exact natz2 | with_reducible exact natz3 | with_reducible exact natz4 | with_reducible exact natz8)) | (apply natz_sub; (· first | with_reducible exact natz _ | with_reducible exact natz0 | with_reducible exact natz1 | with_reducible exact natz2 | with_reducible exact natz3 | with_reducible exact natz4 | with_reducible exact natz8); (· first | with_reducible exact natz _ | with_reducible exact natz0 | with_reducible exact natz1 | with_reducible exact natz2 | with_reducible exact natz3 | with_reducible exact natz4 | with_reducible exact natz8); (· omega)) | exact (Int.toNat_of_nonneg (by omega)).symm)) (by omega) (by omega) (by assumption) _ _ _)) | (refine iF 28 rfl ?_; refine w_callG Try.func28 ?_ (hs := around_no_z _ _ (by (first | with_reducible exact natz _ | with_reducible exact natz0 | with_reducible exact natz1 | with_reducible exact natz2 | with_reducible exact natz3 | with_reducible exact natz4 | with_reducible exact natz8 | (apply natz_add; (· first | with_reducible exact natz _ | with_reducible exact natz0 | with_reducible exact natz1 | with_reducible exact natz2 | with_reducible exact natz3 | with_reducible exact natz4 | with_reducible exact natz8); (· first | with_reducible exact natz _ | with_reducible exact natz0 | with_reducible exact natz1 | with_reducible exact natz2 | with_reducible exact natz3 | with_reducible exact natz4 | with_reducible exact natz8)) | (apply natz_sub; (· first | with_reducible exact natz _ | with_reducible exact natz0 | with_reducible exact natz1 | with_reducible exact natz2 | with_reducible exact natz3 | with_reducible exact natz4 | with_reducible exact natz8); (· first | with_reducible exact natz _ | with_reducible exact natz0 | with_reducible exact natz1 | with_reducible exact natz2 | with_reducible exact natz3 | with_reducible exact natz4 | with_reducible exact natz8); (· omega)) | exact (Int.toNat_of_nonneg (by omega)).symm)) (by omega) (by omega) (by assumption) _ _ _)) | (refine iF 28 rfl ?_; refine w_callG Try.func28 ?_ (hs := around_out _ _ (by omega) _ _ _)) | (refine iF 29 rfl ?_; refine w_callG Try.func29 ?_ (hs := bound_yes_z _ _ (by (first | with_reducible exact natz _ | with_reducible exact natz0 | with_reducible exact natz1 | with_reducible exact natz2 | with_reducible exact natz3 | with_reducible exact natz4 | with_reducible exact natz8 | (apply natz_add; (· first | with_reducible exact natz _ | with_reducible exact natz0 | with_reducible exact natz1 | with_reducible exact natz2 | with_reducible exact natz3 | with_reducible exact natz4 | with_reducible exact natz8); (· first | with_reducible exact natz _ | with_reducible exact natz0 | with_reducible exact natz1 | with_reducible exact natz2 | with_reducible exact natz3 | with_reducible exact natz4 | with_reducible exact natz8)) | (apply natz_sub; (· first | with_reducible exact natz _ | with_reducible exact natz0 | with_reducible exact natz1 | with_reducible exact natz2 | with_reducible exact natz3 | with_reducible exact natz4 | with_reducible exact natz8); (· first | with_reducible exact natz _ | with_reducible exact natz0 | with_reducible exact natz1 | with_reducible exact natz2 | with_reducible exact natz3 | with_reducible exact natz4 | with_reducible exact natz8); (· omega)) | exact (Int.toNat_of_nonneg (by omega)).symm)) (by omega) (by omega) (by assumption) _ _ _)) | (refine iF 29 rfl ?_; refine w_callG Try.func29 ?_ (hs := bound_no_z _ _ _ (by (first | with_reducible exact natz _ | with_reducible exact natz0 | with_reducible exact natz1 | with_reducible exact natz2 | with_reducible exact natz3 | with_reducible exact natz4 | with_reducible exact natz8 | (apply natz_add; (· first | with_reducible exact natz _ | with_reducible exact natz0 | with_reducible exact natz1 | with_reducible exact natz2 | with_reducible exact natz3 | with_reducible exact natz4 | with_reducible exact natz8); (· first | with_reducible exact natz _ | with_reducible exact natz0 | with_reducible exact natz1 | with_reducible exact natz2 | with_reducible exact natz3 | with_reducible exact natz4 | with_reducible exact natz8)) | (apply natz_sub; (· first | with_reducible exact natz _ | with_reducible exact natz0 | with_reducible exact natz1 | with_reducible exact natz2 | with_reducible exact natz3 | with_reducible exact natz4 | with_reducible exact natz8); (· first | with_reducible exact natz _ | with_reducible exact natz0 | with_reducible exact natz1 | with_reducible exact natz2 | with_reducible exact natz3 | with_reducible exact natz4 | with_reducible exact natz8); (· omega)) | exact (Int.toNat_of_nonneg (by omega)).symm)) (by omega) (by omega) (by assumption) _ _ _)) | (refine iF 29 rfl ?_; refine w_callG Try.func29 ?_ (hs := bound_out _ _ (by omega) _ _ _)) | (refine iF 30 rfl ?_; refine w_callG Try.func30 ?_ (hs := refB_yes _ _ (by (first | with_reducible exact natz _ | with_reducible exact natz0 | with_reducible exact natz1 | with_reducible exact natz2 | with_reducible exact natz3 | with_reducible exact natz4 | with_reducible exact natz8 | (apply natz_add; (· first | with_reducible exact natz _ | with_reducible exact natz0 | with_reducible exact natz1 | with_reducible exact natz2 | with_reducible exact natz3 | with_reducible exact natz4 | with_reducible exact natz8); (· first | with_reducible exact natz _ | with_reducible exact natz0 | with_reducible exact natz1 | with_reducible exact natz2 | with_reducible exact natz3 | with_reducible exact natz4 | with_reducible exact natz8)) | (apply natz_sub; (· first | with_reducible exact natz _ | with_reducible exact natz0 | with_reducible exact natz1 | with_reducible exact natz2 | with_reducible exact natz3 | with_reducible exact natz4 | with_reducible exact natz8); (· first | with_reducible exact natz _ | with_reducible exact natz0 | with_reducible exact natz1 | with_reducible exact natz2 | with_reducible exact natz3 | with_reducible exact natz4 | with_reducible exact natz8); (· omega)) | exact (Int.toNat_of_nonneg (by omega)).symm)) (by omega) (by omega) (by assumption) _ _ _)) | (refine iF 30 rfl ?_; refine w_callG Try.func30 ?_ (hs := refB_no _ _ _ (by (first | with_reducible exact natz _ | with_reducible exact natz0 | with_reducible exact natz1 | with_reducible exact natz2 | with_reducible exact natz3 | with_reducible exact natz4 | with_reducible exact natz8 | (apply natz_add; (· first | with_reducible exact natz _ | with_reducible exact natz0 | with_reducible exact natz1 | with_reducible exact natz2 | with_reducible exact natz3 | with_reducible exact natz4 | with_reducible exact natz8); (· first | with_reducible exact natz _ | with_reducible exact natz0 | with_reducible exact natz1 | with_reducible exact natz2 | with_reducible exact natz3 | with_reducible exact natz4 | with_reducible exact natz8)) | (apply natz_sub; (· first | with_reducible exact natz _ | with_reducible exact natz0 | with_reducible exact natz1 | with_reducible exact natz2 | with_reducible exact natz3 | with_reducible exact natz4 | with_reducible exact natz8); (· first | with_reducible exact natz _ | with_reducible exact natz0 | with_reducible exact natz1 | with_reducible exact natz2 | with_reducible exact natz3 | with_reducible exact natz4 | with_reducible exact natz8); (· omega)) | exact (Int.toNat_of_nonneg (by omega)).symm)) (by omega) (by omega) (by assumption) _ _ _)) | (refine iF 30 rfl ?_; refine w_callG Try.func30 ?_ (hs := refB_out _ _ (by omega) (by omega) _ _ _)) | (refine iF 31 rfl ?_; refine w_callG Try.func31 ?_ (hs := refA_yes _ _ _ (by (first | with_reducible exact natz _ | with_reducible exact natz0 | with_reducible exact natz1 | with_reducible exact natz2 | with_reducible exact natz3 | with_reducible exact natz4 | with_reducible exact natz8 | (apply natz_add; (· first | with_reducible exact natz _ | with_reducible exact natz0 | with_reducible exact natz1 | with_reducible exact natz2 | with_reducible exact natz3 | with_reducible exact natz4 | with_reducible exact natz8); (· first | with_reducible exact natz _ | with_reducible exact natz0 | with_reducible exact natz1 | with_reducible exact natz2 | with_reducible exact natz3 | with_reducible exact natz4 | with_reducible exact natz8)) | (apply natz_sub; (· first | with_reducible exact natz _ | with_reducible exact natz0 | with_reducible exact natz1 | with_reducible exact natz2 | with_reducible exact natz3 | with_reducible exact natz4 | with_reducible exact natz8); (· first | with_reducible exact natz _ | with_reducible exact natz0 | with_reducible exact natz1 | with_reducible exact natz2 | with_reducible exact natz3 | with_reducible exact natz4 | with_reducible exact natz8); (· omega)) | exact (Int.toNat_of_nonneg (by omega)).symm)) (by omega) (by omega) (by assumption) _ _ _)) | (refine iF 31 rfl ?_; refine w_callG Try.func31 ?_ (hs := refA_no _ _ (by (first | with_reducible exact natz _ | with_reducible exact natz0 | with_reducible exact natz1 | with_reducible exact natz2 | with_reducible exact natz3 | with_reducible exact natz4 | with_reducible exact natz8 | (apply natz_add; (· first | with_reducible exact natz _ | with_reducible exact natz0 | with_reducible exact natz1 | with_reducible exact natz2 | with_reducible exact natz3 | with_reducible exact natz4 | with_reducible exact natz8); (· first | with_reducible exact natz _ | with_reducible exact natz0 | with_reducible exact natz1 | with_reducible exact natz2 | with_reducible exact natz3 | with_reducible exact natz4 | with_reducible exact natz8)) | (apply natz_sub; (· first | with_reducible exact natz _ | with_reducible exact natz0 | with_reducible exact natz1 | with_reducible exact natz2 | with_reducible exact natz3 | with_reducible exact natz4 | with_reducible exact natz8); (· first | with_reducible exact natz _ | with_reducible exact natz0 | with_reducible exact natz1 | with_reducible exact natz2 | with_reducible exact natz3 | with_reducible exact natz4 | with_reducible exact natz8); (· omega)) | exact (Int.toNat_of_nonneg (by omega)).symm)) (by omega) (by omega) (by assumption) _ _ _)))); exact WQ.q1 rfl) : G := h
theorem st_R12_1 {G G' : Prop} (next : G') (h : Bx G' → G := by intro zzn; (first | ((refine st ?_; (repeat intro zzc)); (try ((first | (refine iB_eql rfl ?_; refine w_eqlV ?_ (he := eq_span _ _ _ _)) | (refine iB_neq rfl ?_; refine w_neqV ?_ (he := eq_span _ _ _ _)) | (refine iF 15 rfl ?_; refine w_callG Try.func15 ?_ (hs := wakes_any _ _ _)) | (refine iF 28 rfl ?_; refine w_callG Try.func28 ?_ (hs := around_yes_z _ _ _ (by (first | with_reducible exact natz _ | with_reducible exact natz0 | with_reducible exact natz1 | with_reducible exact natz2 | with_reducible exact natz3 | with_reducible exact natz4 | with_reducible exact natz8 | (apply natz_add; (· first | with_reducible exact natz _ | with_reducible exact natz0 | with_reducible exact natz1 | with_reducible exact natz2 | with_reducible exact natz3 | with_reducible exact natz4 | with_reducible exact natz8); (· first | with_reducible exact natz _ | with_reducible exact natz0 | with_reducible exact natz1 | with_reducible exact natz2 | with_reducible exact natz3 | with_reducible exact natz4 | with_reducible exact natz8)) | (apply natz_sub; (· first | with_reducible exact natz _ | with_reducible exact natz0 | with_reducible exact natz1 | with_reducible exact natz2 | with_reducible exact natz3 | with_reducible exact natz4 | with_reducible exact natz8); (· first | with_reducible exact natz _ | with_reducible exact natz0 | with_reducible exact natz1 | with_reducible exact natz2 | with_reducible exact natz3 | with_reducible exact natz4 | with_reducible exact natz8); (· omega)) | exact (Int.toNat_of_nonneg (by omega)).symm)) (by omega) (by omega) (by assumption) _ _ _)) | (refine iF 28 rfl ?_; refine w_callG Try.func28 ?_ (hs := around_no_z _ _ (by (first | with_reducible exact natz _ | with_reducible exact natz0 | with_reducible exact natz1 | with_reducible exact natz2 | with_reducible exact natz3 | with_reducible exact natz4 | with_reducible exact natz8 | (apply natz_add; (· first | with_reducible exact natz _ | with_reducible exact natz0 | with_reducible exact natz1 | with_reducible exact natz2 | with_reducible exact natz3 | with_reducible exact natz4 | with_reducible exact natz8); (· first | with_reducible exact natz _ | with_reducible exact natz0 | with_reducible exact natz1 | with_reducible exact natz2 | with_reducible exact natz3 | with_reducible exact natz4 | with_reducible exact natz8)) | (apply natz_sub; (· first | with_reducible exact natz _ | with_reducible exact natz0 | with_reducible exact natz1 | with_reducible exact natz2 | with_reducible exact natz3 | with_reducible exact natz4 | with_reducible exact natz8); (· first | with_reducible exact natz _ | with_reducible exact natz0 | with_reducible exact natz1 | with_reducible exact natz2 | with_reducible exact natz3 | with_reducible exact natz4 | with_reducible exact natz8); (· omega)) | exact (Int.toNat_of_nonneg (by omega)).symm)) (by omega) (by omega) (by assumption) _ _ _)) | (refine iF 28 rfl ?_; refine w_callG Try.func28 ?_ (hs := around_out _ _ (by omega) _ _ _)) | (refine iF 29 rfl ?_; refine w_callG Try.func29 ?_ (hs := bound_yes_z _ _ (by (first | with_reducible exact natz _ | with_reducible exact natz0 | with_reducible exact natz1 | with_reducible exact natz2 | with_reducible exact natz3 | with_reducible exact natz4 | with_reducible exact natz8 | (apply natz_add; (· first | with_reducible exact natz _ | with_reducible exact natz0 | with_reducible exact natz1 | with_reducible exact natz2 | with_reducible exact natz3 | with_reducible exact natz4 | with_reducible exact natz8); (· first | with_reducible exact natz _ | with_reducible exact natz0 | with_reducible exact natz1 | with_reducible exact natz2 | with_reducible exact natz3 | with_reducible exact natz4 | with_reducible exact natz8)) | (apply natz_sub; (· first | with_reducible exact natz _ | with_reducible exact natz0 | with_reducible exact natz1 | with_reducible exact natz2 | with_reducible exact natz3 | with_reducible exact natz4 | with_reducible exact natz8); (· first | with_reducible exact natz _ | with_reducible exact natz0 | with_reducible exact natz1 | with_reducible exact natz2 | with_reducible exact natz3 | with_reducible exact natz4 | with_reducible exact natz8); (· omega)) | exact (Int.toNat_of_nonneg (by omega)).symm)) (by omega) (by omega) (by assumption) _ _ _)) | (refine iF 29 rfl ?_; refine w_callG Try.func29 ?_ (hs := bound_no_z _ _ _ (by (first | with_reducible exact natz _ | with_reducible exact natz0 | with_reducible exact natz1 | with_reducible exact natz2 | with_reducible exact natz3 | with_reducible exact natz4 | with_reducible exact natz8 | (apply natz_add; (· first | with_reducible exact natz _ | with_reducible exact natz0 | with_reducible exact natz1 | with_reducible exact natz2 | with_reducible exact natz3 | with_reducible exact natz4 | with_reducible exact natz8); (· first | with_reducible exact natz _ | with_reducible exact natz0 | with_reducible exact natz1 | with_reducible exact natz2 | with_reducible exact natz3 | with_reducible exact natz4 | with_reducible exact natz8)) | (apply natz_sub; (· first | with_reducible exact natz _ | with_reducible exact natz0 | with_reducible exact natz1 | with_reducible exact natz2 | with_reducible exact natz3 | with_reducible exact natz4 | with_reducible exact natz8); (· first | with_reducible exact natz _ | with_reducible exact natz0 | with_reducible exact natz1 | with_reducible exact natz2 | with_reducible exact natz3 | with_reducible exact natz4 | with_reducible exact natz8); (· omega)) | exact (Int.toNat_of_nonneg (by omega)).symm)) (by omega) (by omega) (by assumption) _ _ _)) | (refine iF 29 rfl ?_; refine w_callG Try.func29 ?_ (hs := bound_out _ _ (by omega) _ _ _)) | (refine iF 30 rfl ?_; refine w_callG Try.func30 ?_ (hs := refB_yes _ _ (by (first | with_reducible exact natz _ | with_reducible exact natz0 | with_reducible exact natz1 | with_reducible exact natz2 | with_reducible exact natz3 | with_reducible exact natz4 | with_reducible exact natz8 | (apply natz_add; (· first | with_reducible exact natz _ | with_reducible exact natz0 | with_reducible exact natz1 | with_reducible exact natz2 | with_reducible exact natz3 | with_reducible exact natz4 | with_reducible exact natz8); (· first | with_reducible exact natz _ | with_reducible exact natz0 | with_reducible exact natz1 | with_reducible exact natz2 | with_reducible exact natz3 | with_reducible exact natz4 | with_reducible exact natz8)) | (apply natz_sub; (· first | with_reducible exact natz _ | with_reducible exact natz0 | with_reducible exact natz1 | with_reducible exact natz2 | with_reducible exact natz3 | with_reducible exact natz4 | with_reducible exact natz8); (· first | with_reducible exact natz _ | with_reducible exact natz0 | with_reducible exact natz1 | with_reducible exact natz2 | with_reducible exact natz3 | with_reducible exact natz4 | with_reducible exact natz8); (· omega)) | exact (Int.toNat_of_nonneg (by omega)).symm)) (by omega) (by omega) (by assumption) _ _ _)) | (refine iF 30 rfl ?_; refine w_callG Try.func30 ?_ (hs := refB_no _ _ _ (by (first | with_reducible exact natz _ | with_reducible exact natz0 | with_reducible exact natz1 | with_reducible exact natz2 | with_reducible exact natz3 | with_reducible exact natz4 | with_reducible exact natz8 | (apply natz_add; (· first | with_reducible exact natz _ | with_reducible exact natz0 | with_reducible exact natz1 | with_reducible exact natz2 | with_reducible exact natz3 | with_reducible exact natz4 | with_reducible exact natz8); (· first | with_reducible exact natz _ | with_reducible exact natz0 | with_reducible exact natz1 | with_reducible exact natz2 | with_reducible exact natz3 | with_reducible exact natz4 | with_reducible exact natz8)) | (apply natz_sub; (· first | with_reducible exact natz _ | with_reducible exact natz0 | with_reducible exact natz1 | with_reducible exact natz2 | with_reducible exact natz3 | with_reducible exact natz4 | with_reducible exact natz8); (· first | with_reducible exact natz _ | with_reducible exact natz0 | with_reducible exact natz1 | with_reducible exact natz2 | with_reducible exact natz3 | with_reducible exact natz4 | with_reducible exact natz8); (· omega)) | exact (Int.toNat_of_nonneg (by omega)).symm)) (by omega) (by omega) (by assumption) _ _ _)) | (refine iF 30 rfl ?_; refine w_callG Try.func30 ?_ (hs := refB_out _ _ (by omega) (by omega) _ _ _)) | (refine iF 31 rfl ?_; refine w_callG Try.func31 ?_ (hs := refA_yes _ _ _ (by (first | with_reducible exact natz _ | with_reducible exact natz0 | with_reducible exact natz1 | with_reducible exact natz2 | with_reducible exact natz3 | with_reducible exact natz4 | with_reducible exact natz8 | (apply natz_add; (· first | with_reducible exact natz _ | with_reducible exact natz0 | with_reducible exact natz1 | with_reducible exact natz2 | with_reducible exact natz3 | with_reducible exact natz4 | with_reducible exact natz8); (· first | with_reducible exact natz _ | with_reducible exact natz0 | with_reducible exact natz1 | with_reducible exact natz2 | with_reducible exact natz3 | with_reducible exact natz4 | with_reducible exact natz8)) | (apply natz_sub; (· first | with_reducible exact natz _ | with_reducible exact natz0 | with_reducible exact natz1 | with_reducible exact natz2 | with_reducible exact natz3 | with_reducible exact natz4 | with_reducible exact natz8); (· first | with_reducible exact natz _ | with_reducible exact natz0 | with_reducible exact natz1 | with_reducible exact natz2 | with_reducible exact natz3 | with_reducible exact natz4 | with_reducible exact natz8); (· omega)) | exact (Int.toNat_of_nonneg (by omega)).symm)) (by omega) (by omega) (by assumption) _ _ _)) | (refine iF 31 rfl ?_; refine w_callG Try.func31 ?_ (hs := refA_no _ _ (by (first | with_reducible exact natz _ | with_reducible exact natz0 | with_reducible exact natz1 | with_reducible exact natz2 | with_reducible exact natz3 | with_reducible exact natz4 | with_reducible exact natz8 | (apply natz_add; (· first | with_reducible exact natz _ | with_reducible exact natz0 | with_reducible exact natz1 | with_reducible exact natz2 | with_reducible exact natz3 | with_reducible exact natz4 | with_reducible exact natz8); (· first | with_reducible exact natz _ | with_reducible exact natz0 | with_reducible exact natz1 | with_reducible exact natz2 | with_reducible exact natz3 | with_reducible exact natz4 | with_reducible exact natz8)) | (apply natz_sub; (· first | with_reducible exact natz _ | with_reducible exact natz0 | with_reducible exact natz1 | with_reducible exact natz2 | with_reducible exact natz3 | with_reducible exact natz4 | with_reducible exact natz8); (· first | with_reducible exact natz _ | with_reducible exact natz0 | with_reducible exact natz1 | with_reducible exact natz2 | with_reducible exact natz3 | with_reducible exact natz4 | with_reducible exact natz8); (· omega)) | exact (Int.toNat_of_nonneg (by omega)).symm)) (by omega) (by omega) (by assumption) _ _ _)) | ((refine iDraw ?_; (first | refine WC.drawAll rfl (by decide +kernel) ?_ | refine WC.draw 1 rfl (by decide +kernel) ?_ | refine WC.draw 2 rfl (by decide +kernel) ?_ | refine WC.draw 3 rfl (by decide +kernel) ?_ | refine WC.draw 4 rfl (by decide +kernel) ?_ | refine WC.draw 5 rfl (by decide +kernel) ?_ | refine WC.draw 6 rfl (by decide +kernel) ?_ | refine WC.draw 7 rfl (by decide +kernel) ?_ | refine WC.draw 8 rfl (by decide +kernel) ?_ | refine WC.draw 9 rfl (by decide +kernel) ?_ | refine WC.draw 10 rfl (by decide +kernel) ?_ | refine WC.draw 11 rfl (by decide +kernel) ?_ | refine WC.draw 12 rfl (by decide +kernel) ?_ | refine WC.draw 13 rfl (by decide +kernel) ?_ | refine WC.draw 14 rfl (by decide +kernel) ?_ | refine WC.draw 15 rfl (by decide +kernel) ?_ | refine WC.draw 16 rfl (by decide +kernel) ?_ | refine WC.draw 17 rfl (by decide +kernel) ?_ | refine WC.draw 18 rfl (by decide +kernel) ?_ | refine WC.draw 19 rfl (by decide +kernel) ?_ | refine WC.draw 20 rfl (by decide +kernel) ?_ | refine WC.draw 21 rfl (by decide +kernel) ?_ | refine WC.draw 22 rfl (by decide +kernel) ?_ | refine WC.draw 23 rfl (by decide +kernel) ?_ | refine WC.draw 24 rfl (by decide +kernel) ?_)); (repeat (refine WD.cons rfl (fun c h => by cases h) sq_R12_1 ?_)); refine WD.nil ?_)); (try (refine st ?_; (repeat intro zzc)))))) | ((first | (refine iB_eql rfl ?_; refine w_eqlV ?_ (he := eq_span _ _ _ _)) | (refine iB_neq rfl ?_; refine w_neqV ?_ (he := eq_span _ _ _ _)) | (refine iF 15 rfl ?_; refine w_callG Try.func15 ?_ (hs := wakes_any _ _ _)) | (refine iF 28 rfl ?_; refine w_callG Try.func28 ?_ (hs := around_yes_z _ _ _ (by (first | with_reducible exact natz _ | with_reducible exact natz0 | with_reducible exact natz1 | with_reducible exact natz2 | with_reducible exact natz3 | with_reducible exact natz4 | with_reducible exact natz8 | (apply natz_add; (· first | with_reducible exact natz _ | with_reducible exact natz0 | with_reducible exact natz1 | with_reducible exact natz2 | with_reducible exact natz3 | with_reducible exact natz4 | with_reducible exact natz8); (· first | with_reducible exact natz _ | with_reducible exact natz0 | with_reducible exact natz1 | with_reducible exact natz2 | with_reducible exact natz3 | with_reducible exact natz4 | with_reducible exact natz8)) | (apply natz_sub; (· first | with_reducible exact natz _ | with_reducible exact natz0 | with_reducible exact natz1 | with_reducible exact natz2 | with_reducible exact natz3 | with_reducible exact natz4 | with_reducible exact natz8); (· first | with_reducible exact natz _ | with_reducible exact natz0 | with_reducible exact natz1 | with_reducible exact natz2 | with_reducible exact natz3 | with_reducible exact natz4 | with_reducible exact natz8); (· omega)) | exact (Int.toNat_of_nonneg (by omega)).symm)) (by omega) (by omega) (by assumption) _ _ _)) | (refine iF 28 rfl ?_; refine w_callG Try.func28 ?_ (hs := around_no_z _ _ (by (first | with_reducible exact natz _ | with_reducible exact natz0 | with_reducible exact natz1 | with_reducible exact natz2 | with_reducible exact natz3 | with_reducible exact natz4 | with_reducible exact natz8 | (apply natz_add; (· first | with_reducible exact natz _ | with_reducible exact natz0 | with_reducible exact natz1 | with_reducible exact natz2 | with_reducible exact natz3 | with_reducible exact natz4 | with_reducible exact natz8); (· first | with_reducible exact natz _ | with_reducible exact natz0 | with_reducible exact natz1 | with_reducible exact natz2 | with_reducible exact natz3 | with_reducible exact natz4 | with_reducible exact natz8)) | (apply natz_sub; (· first | with_reducible exact natz _ | with_reducible exact natz0 | with_reducible exact natz1 | with_reducible exact natz2 | with_reducible exact natz3 | with_reducible exact natz4 | with_reducible exact natz8); (· first | with_reducible exact natz _ | with_reducible exact natz0 | with_reducible exact natz1 | with_reducible exact natz2 | with_reducible exact natz3 | with_reducible exact natz4 | with_reducible exact natz8); (· omega)) | exact (Int.toNat_of_nonneg (by omega)).symm)) (by omega) (by omega) (by assumption) _ _ _)) | (refine iF 28 rfl ?_; refine w_callG Try.func28 ?_ (hs := around_out _ _ (by omega) _ _ _)) | (refine iF 29 rfl ?_; refine w_callG Try.func29 ?_ (hs := bound_yes_z _ _ (by (first | with_reducible exact natz _ | with_reducible exact natz0 | with_reducible exact natz1 | with_reducible exact natz2 | with_reducible exact natz3 | with_reducible exact natz4 | with_reducible exact natz8 | (apply natz_add; (· first | with_reducible exact natz _ | with_reducible exact natz0 | with_reducible exact natz1 | with_reducible exact natz2 | with_reducible exact natz3 | with_reducible exact natz4 | with_reducible exact natz8); (· first | with_reducible exact natz _ | with_reducible exact natz0 | with_reducible exact natz1 | with_reducible exact natz2 | with_reducible exact natz3 | with_reducible exact natz4 | with_reducible exact natz8)) | (apply natz_sub; (· first | with_reducible exact natz _ | with_reducible exact natz0 | with_reducible exact natz1 | with_reducible exact natz2 | with_reducible exact natz3 | with_reducible exact natz4 | with_reducible exact natz8); (· first | with_reducible exact natz _ | with_reducible exact natz0 | with_reducible exact natz1 | with_reducible exact natz2 | with_reducible exact natz3 | with_reducible exact natz4 | with_reducible exact natz8); (· omega)) | exact (Int.toNat_of_nonneg (by omega)).symm)) (by omega) (by omega) (by assumption) _ _ _)) | (refine iF 29 rfl ?_; refine w_callG Try.func29 ?_ (hs := bound_no_z _ _ _ (by (first | with_reducible exact natz _ | with_reducible exact natz0 | with_reducible exact natz1 | with_reducible exact natz2 | with_reducible exact natz3 | with_reducible exact natz4 | with_reducible exact natz8 | (apply natz_add; (· first | with_reducible exact natz _ | with_reducible exact natz0 | with_reducible exact natz1 | with_reducible exact natz2 | with_reducible exact natz3 | with_reducible exact natz4 | with_reducible exact natz8); (· first | with_reducible exact natz _ | with_reducible exact natz0 | with_reducible exact natz1 | with_reducible exact natz2 | with_reducible exact natz3 | with_reducible exact natz4 | with_reducible exact natz8)) | (apply natz_sub; (· first | with_reducible exact natz _ | with_reducible exact natz0 | with_reducible exact natz1 | with_reducible exact natz2 | with_reducible exact natz3 | with_reducible exact natz4 | with_reducible exact natz8); (· first | with_reducible exact natz _ | with_reducible exact natz0 | with_reducible exact natz1 | with_reducible exact natz2 | with_reducible exact natz3 | with_reducible exact natz4 | with_reducible exact natz8); (· omega)) | exact (Int.toNat_of_nonneg (by omega)).symm)) (by omega) (by omega) (by assumption) _ _ _)) | (refine iF 29 rfl ?_; refine w_callG Try.func29 ?_ (hs := bound_out _ _ (by omega) _ _ _)) | (refine iF 30 rfl ?_; refine w_callG Try.func30 ?_ (hs := refB_yes _ _ (by (first | with_reducible exact natz _ | with_reducible exact natz0 | with_reducible exact natz1 | with_reducible exact natz2 | with_reducible exact natz3 | with_reducible exact natz4 | with_reducible exact natz8 | (apply natz_add; (· first | with_reducible exact natz _ | with_reducible exact natz0 | with_reducible exact natz1 | with_reducible exact natz2 | with_reducible exact natz3 | with_reducible exact natz4 | with_reducible exact natz8); (· first | with_reducible exact natz _ | with_reducible exact natz0 | with_reducible exact natz1 | with_reducible exact natz2 | with_reducible exact natz3 | with_reducible exact natz4 | with_reducible exact natz8)) | (apply natz_sub; (· first | with_reducible exact natz _ | with_reducible exact natz0 | with_reducible exact natz1 | with_reducible exact natz2 | with_reducible exact natz3 | with_reducible exact natz4 | with_reducible exact natz8); (· first | with_reducible exact natz _ | with_reducible exact natz0 | with_reducible exact natz1 | with_reducible exact natz2 | with_reducible exact natz3 | with_reducible exact natz4 | with_reducible exact natz8); (· omega)) | exact (Int.toNat_of_nonneg (by omega)).symm)) (by omega) (by omega) (by assumption) _ _ _)) | (refine iF 30 rfl ?_; refine w_callG Try.func30 ?_ (hs := refB_no _ _ _ (by (first | with_reducible exact natz _ | with_reducible exact natz0 | with_reducible exact natz1 | with_reducible exact natz2 | with_reducible exact natz3 | with_reducible exact natz4 | with_reducible exact natz8 | (apply natz_add; (· first | with_reducible exact natz _ | with_reducible exact natz0 | with_reducible exact natz1 | with_reducible exact natz2 | with_reducible exact natz3 | with_reducible exact natz4 | with_reducible exact natz8); (· first | with_reducible exact natz _ | with_reducible exact natz0 | with_reducible exact natz1 | with_reducible exact natz2 | with_reducible exact natz3 | with_reducible exact natz4 | with_reducible exact natz8)) | (apply natz_sub; (· first | with_reducible exact natz _ | with_reducible exact natz0 | with_reducible exact natz1 | with_reducible exact natz2 | with_reducible exact natz3 | with_reducible exact natz4 | with_reducible exact natz8); (· first | with_reducible exact natz _ | with_reducible exact natz0 | with_reducible exact natz1 | with_reducible exact natz2 | with_reducible exact natz3 | with_reducible exact natz4 | with_reducible exact natz8); (· omega)) | exact (Int.toNat_of_nonneg (by omega)).symm)) (by omega) (by omega) (by assumption) _ _ _)) | (refine iF 30 rfl ?_; refine w_callG Try.func30 ?_ (hs := refB_out _ _ (by omega) (by omega) _ _ _)) | (refine iF 31 rfl ?_; refine w_callG Try.func31 ?_ (hs := refA_yes _ _ _ (by (first | with_reducible exact natz _ | with_reducible exact natz0 | with_reducible exact natz1 | with_reducible exact natz2 | with_reducible exact natz3 | with_reducible exact natz4 | with_reducible exact natz8 | (apply natz_add; (· first | with_reducible exact natz _ | with_reducible exact natz0 | with_reducible exact natz1 | with_reducible exact natz2 | with_reducible exact natz3 | with_reducible exact natz4 | with_reducible exact natz8); (· first | with_reducible exact natz _ | with_reducible exact natz0 | with_reducible exact natz1 | with_reducible exact natz2 | with_reducible exact natz3 | with_reducible exact natz4 | with_reducible exact natz8)) | (apply natz_sub; (· first | with_reducible exact natz _ | with_reducible exact natz0 | with_reducible exact natz1 | with_reducible exact natz2 | with_reducible exact natz3 | with_reducible exact natz4 | with_reducible exact natz8); (· first | with_reducible exact natz _ | with_reducible exact natz0 | with_reducible exact natz1 | with_reducible exact natz2 | with_reducible exact natz3 | with_reducible exact natz4 | with_reducible exact natz8); (· omega)) | exact (Int.toNat_of_nonneg (by omega)).symm)) (by omega) (by omega) (by assumption) _ _ _)) | (refine iF 31 rfl ?_; refine w_callG Try.func31 ?_ (hs := refA_no _ _ (by (first | with_reducible exact natz _ | with_reducible exact natz0 | with_reducible exact natz1 | with_reducible exact natz2 | with_reducible exact natz3 | with_reducible exact natz4 | with_reducible exact natz8 | (apply natz_add; (· first | with_reducible exact natz _ | with_reducible exact natz0 | with_reducible exact natz1 | with_reducible exact natz2 | with_reducible exact natz3 | with_reducible exact natz4 | with_reducible exact natz8); (· first | with_reducible exact natz _ | with_reducible exact natz0 | with_reducible exact natz1 | with_reducible exact natz2 | with_reducible exact natz3 | with_reducible exact natz4 | with_reducible exact natz8)) | (apply natz_sub; (· first | with_reducible exact natz _ | with_reducible exact natz0 | with_reducible exact natz1 | with_reducible exact natz2 | with_reducible exact natz3 | with_reducible exact natz4 | with_reducible exact natz8); (· first | with_reducible exact natz _ | with_reducible exact natz0 | with_reducible exact natz1 | with_reducible exact natz2 | with_reducible exact natz3 | with_reducible exact natz4 | with_reducible exact natz8); (· omega)) | exact (Int.toNat_of_nonneg (by omega)).symm)) (by omega) (by omega) (by assumption) _ _ _)) | ((refine iDraw ?_; (first | refine WC.drawAll rfl (by decide +kernel) ?_ | refine WC.draw 1 rfl (by decide +kernel) ?_ | refine WC.draw 2 rfl (by decide +kernel) ?_ | refine WC.draw 3 rfl (by decide +kernel) ?_ | refine WC.draw 4 rfl (by decide +kernel) ?_ | refine WC.draw 5 rfl (by decide +kernel) ?_ | refine WC.draw 6 rfl (by decide +kernel) ?_ | refine WC.draw 7 rfl (by decide +kernel) ?_ | refine WC.draw 8 rfl (by decide +kernel) ?_ | refine WC.draw 9 rfl (by decide +kernel) ?_ | refine WC.draw 10 rfl (by decide +kernel) ?_ | refine WC.draw 11 rfl (by decide +kernel) ?_ | refine WC.draw 12 rfl (by decide +kernel) ?_ | refine WC.draw 13 rfl (by decide +kernel) ?_ | refine WC.draw 14 rfl (by decide +kernel) ?_ | refine WC.draw 15 rfl (by decide +kernel) ?_ | refine WC.draw 16 rfl (by decide +kernel) ?_ | refine WC.draw 17 rfl (by decide +kernel) ?_ | refine WC.draw 18 rfl (by decide +kernel) ?_ | refine WC.draw 19 rfl (by decide +kernel) ?_ | refine WC.draw 20 rfl (by decide +kernel) ?_ | refine WC.draw 21 rfl (by decide +kernel) ?_ | refine WC.draw 22 rfl (by decide +kernel) ?_ | refine WC.draw 23 rfl (by decide +kernel) ?_ | refine WC.draw 24 rfl (by decide +kernel) ?_)); (repeat (refine WD.cons rfl (fun c h => by cases h) sq_R12_1 ?_)); refine WD.nil ?_)); (try (refine st ?_; (repeat intro zzc))))); (repeat ((first | (refine iB_eql rfl ?_; refine w_eqlV ?_ (he := eq_span _ _ _ _)) | (refine iB_neq rfl ?_; refine w_neqV ?_ (he := eq_span _ _ _ _)) | (refine iF 15 rfl ?_; refine w_callG Try.func15 ?_ (hs := wakes_any _ _ _)) | (refine iF 28 rfl ?_; refine w_callG Try.func28 ?_ (hs := around_yes_z _ _ _ (by (first | with_reducible exact natz _ | with_reducible exact natz0 | with_reducible exact natz1 | with_reducible exact natz2 | with_reducible exact natz3 | with_reducible exact natz4 | with_reducible exact natz8 | (apply natz_add; (· first | with_reducible exact natz _ | with_reducible exact natz0 | with_reducible exact natz1 | with_reducible exact natz2 | with_reducible exact natz3 | with_reducible exact natz4 | with_reducible exact natz8); (· first | with_reducible exact natz _ | with_reducible exact natz0 | with_reducible exact natz1 | with_reducible exact natz2 | with_reducible exact natz3 | with_reducible exact natz4 | with_reducible exact natz8)) | (apply natz_sub; (· first | with_reducible exact natz _ | with_reducible exact natz0 | with_reducible exact natz1 | with_reducible exact natz2 | with_reducible exact natz3 | with_reducible exact natz4 | with_reducible exact natz8); (· first | with_reducible exact natz _ | with_reducible exact natz0 | with_reducible exact natz1 | with_reducible exact natz2 | with_reducible exact natz3 | with_reducible exact natz4 | with_reducible exact natz8); (· omega)) | exact (Int.toNat_of_nonneg (by omega)).symm)) (by omega) (by omega) (by assumption) _ _ _)) | (refine iF 28 rfl ?_; refine w_callG Try.func28 ?_ (hs := around_no_z _ _ (by (first | with_reducible exact natz _ | with_reducible exact natz0 | with_reducible exact natz1 | with_reducible exact natz2 | with_reducible exact natz3 | with_reducible exact natz4 | with_reducible exact natz8 | (apply natz_add; (· first | with_reducible exact natz _ | with_reducible exact natz0 | with_reducible exact natz1 | with_reducible exact natz2 | with_reducible exact natz3 | with_reducible exact natz4 | with_reducible exact natz8); (· first | with_reducible exact natz _ | with_reducible exact natz0 | with_reducible exact natz1 | with_reducible exact natz2 | with_reducible exact natz3 | with_reducible exact natz4 | with_reducible exact natz8)) | (apply natz_sub; (· first | with_reducible exact natz _ | with_reducible exact natz0 | with_reducible exact natz1 | with_reducible exact natz2 | with_reducible exact natz3 | with_reducible exact natz4 | with_reducible exact natz8); (· first | with_reducible exact natz _ | with_reducible exact natz0 | with_reducible exact natz1 | with_reducible exact natz2 | with_reducible exact natz3 | with_reducible exact natz4 | with_reducible exact natz8); (· omega)) | exact (Int.toNat_of_nonneg (by omega)).symm)) (by omega) (by omega) (by assumption) _ _ _)) | (refine iF 28 rfl ?_; refine w_callG Try.func28 ?_ (hs := around_out _ _ (by omega) _ _ _)) | (refine iF 29 rfl ?_; refine w_callG Try.func29 ?_ (hs := bound_yes_z _ _ (by (first | with_reducible exact natz _ | with_reducible exact natz0 | with_reducible exact natz1 | with_reducible exact natz2 | with_reducible exact natz3 | with_reducible exact natz4 | with_reducible exact natz8 | (apply natz_add; (· first | with_reducible exact natz _ | with_reducible exact natz0 | with_reducible exact natz1 | with_reducible exact natz2 | with_reducible exact natz3 | with_reducible exact natz4 | with_reducible exact natz8); (· first | with_reducible exact natz _ | with_reducible exact natz0 | with_reducible exact natz1 | with_reducible exact natz2 | with_reducible exact natz3 | with_reducible exact natz4 | with_reducible exact natz8)) | (apply natz_sub; (· first | with_reducible exact natz _ | with_reducible exact natz0 | with_reducible exact natz1 | with_reducible exact natz2 | with_reducible exact natz3 | with_reducible exact natz4 | with_reducible exact natz8); (· first | with_reducible exact natz _ | with_reducible exact natz0 | with_reducible exact natz1 | with_reducible exact natz2 | with_reducible exact natz3 | with_reducible exact natz4 | with_reducible exact natz8); (· omega)) | exact (Int.toNat_of_nonneg (by omega)).symm)) (by omega) (by omega) (by assumption) _ _ _)) | (refine iF 29 rfl ?_; refine w_callG Try.func29 ?_ (hs := bound_no_z _ _ _ (by (first | with_reducible exact natz _ | with_reducible exact natz0 | with_reducible exact natz1 | with_reducible exact natz2 | with_reducible exact natz3 | with_reducible exact natz4 | with_reducible exact natz8 | (apply natz_add; (· first | with_reducible exact natz _ | with_reducible exact natz0 | with_reducible exact natz1 | with_reducible exact natz2 | with_reducible exact natz3 | with_reducible exact natz4 | with_reducible exact natz8); (· first | with_reducible exact natz _ | with_reducible exact natz0 | with_reducible exact natz1 | with_reducible exact natz2 | with_reducible exact natz3 | with_reducible exact natz4 | with_reducible exact natz8)) | (apply natz_sub; (· first | with_reducible exact natz _ | with_reducible exact natz0 | with_reducible exact natz1 | with_reducible exact natz2 | with_reducible exact natz3 | with_reducible exact natz4 | with_reducible exact natz8); (· first | with_reducible exact natz _ | with_reducible exact natz0 | with_reducible exact natz1 | with_reducible exact natz2 | with_reducible exact natz3 | with_reducible exact natz4 | with_reducible exact natz8); (· omega)) | exact (Int.toNat_of_nonneg (by omega)).symm)) (by omega) (by omega) (by assumption) _ _ _)) | (refine iF 29 rfl ?_; refine w_callG Try.func29 ?_ (hs := bound_out _ _ (by omega) _ _ _)) | (refine iF 30 rfl ?_; refine w_callG Try.func30 ?_ (hs := refB_yes _ _ (by (first | with_reducible exact natz _ | with_reducible exact natz0 | with_reducible exact natz1 | with_reducible exact natz2 | with_reducible exact natz3 | with_reducible exact natz4 | with_reducible exact natz8 | (apply natz_add; (· first | with_reducible exact natz _ | with_reducible exact natz0 | with_reducible exact natz1 | with_reducible exact natz2 | with_reducible exact natz3 | with_reducible exact natz4 | with_reducible exact natz8); (· first | with_reducible exact natz _ | with_reducible exact natz0 | with_reducible exact natz1 | with_reducible exact natz2 | with_reducible exact natz3 | with_reducible exact natz4 | with_reducible exact natz8)) | (apply natz_sub; (· first | with_reducible exact natz _ | with_reducible exact natz0 | with_reducible exact natz1 | with_reducible exact natz2 | with_reducible exact natz3 | with_reducible exact natz4 | with_reducible exact natz8); (· first | with_reducible exact natz _ | with_reducible exact natz0 | with_reducible exact natz1 | with_reducible exact natz2 | with_reducible exact natz3 | with_reducible exact natz4 | with_reducible exact natz8); (· omega)) | exact (Int.toNat_of_nonneg (by omega)).symm)) (by omega) (by omega) (by assumption) _ _ _)) | (refine iF 30 rfl ?_; refine w_callG Try.func30 ?_ (hs := refB_no _ _ _ (by (first | with_reducible exact natz _ | with_reducible exact natz0 | with_reducible exact natz1 | with_reducible exact natz2 | with_reducible exact natz3 | with_reducible exact natz4 | with_reducible exact natz8 | (apply natz_add; (· first | with_reducible exact natz _ | with_reducible exact natz0 | with_reducible exact natz1 | with_reducible exact natz2 | with_reducible exact natz3 | with_reducible exact natz4 | with_reducible exact natz8); (· first | with_reducible exact natz _ | with_reducible exact natz0 | with_reducible exact natz1 | with_reducible exact natz2 | with_reducible exact natz3 | with_reducible exact natz4 | with_reducible exact natz8)) | (apply natz_sub; (· first | with_reducible exact natz _ | with_reducible exact natz0 | with_reducible exact natz1 | with_reducible exact natz2 | with_reducible exact natz3 | with_reducible exact natz4 | with_reducible exact natz8); (· first | with_reducible exact natz _ | with_reducible exact natz0 | with_reducible exact natz1 | with_reducible exact natz2 | with_reducible exact natz3 | with_reducible exact natz4 | with_reducible exact natz8); (· omega)) | exact (Int.toNat_of_nonneg (by omega)).symm)) (by omega) (by omega) (by assumption) _ _ _)) | (refine iF 30 rfl ?_; refine w_callG Try.func30 ?_ (hs := refB_out _ _ (by omega) (by omega) _ _ _)) | (refine iF 31 rfl ?_; refine w_callG Try.func31 ?_ (hs := refA_yes _ _ _ (by (first | with_reducible exact natz _ | with_reducible exact natz0 | with_reducible exact natz1 | with_reducible exact natz2 | with_reducible exact natz3 | with_reducible exact natz4 | with_reducible exact natz8 | (apply natz_add; (· first | with_reducible exact natz _ | with_reducible exact natz0 | with_reducible exact natz1 | with_reducible exact natz2 | with_reducible exact natz3 | with_reducible exact natz4 | with_reducible exact natz8); (· first | with_reducible exact natz _ | with_reducible exact natz0 | with_reducible exact natz1 | with_reducible exact natz2 | with_reducible exact natz3 | with_reducible exact natz4 | with_reducible exact natz8)) | (apply natz_sub; (· first | with_reducible exact natz _ | with_reducible exact natz0 | with_reducible exact natz1 | with_reducible exact natz2 | with_reducible exact natz3 | with_reducible exact natz4 | with_reducible exact natz8); (· first | with_reducible exact natz _ | with_reducible exact natz0 | with_reducible exact natz1 | with_reducible exact natz2 | with_reducible exact natz3 | with_reducible exact natz4 | with_reducible exact natz8); (· omega)) | exact (Int.toNat_of_nonneg (by omega)).symm)) (by omega) (by omega) (by assumption) _ _ _)) | (refine iF 31 rfl ?_; refine w_callG Try.func31 ?_ (hs := refA_no _ _ (by (first | with_reducible exact natz _ | with_reducible exact natz0 | with_reducible exact natz1 | with_reducible exact natz2 | with_reducible exact natz3 | with_reducible exact natz4 | with_reducible exact natz8 | (apply natz_add; (· first | with_reducible exact natz _ | with_reducible exact natz0 | with_reducible exact natz1 | with_reducible exact natz2 | with_reducible exact natz3 | with_reducible exact natz4 | with_reducible exact natz8); (· first | with_reducible exact natz _ | with_reducible exact natz0 | with_reducible exact natz1 | with_reducible exact natz2 | with_reducible exact natz3 | with_reducible exact natz4 | with_reducible exact natz8)) | (apply natz_sub; (· first | with_reducible exact natz _ | with_reducible exact natz0 | with_reducible exact natz1 | with_reducible exact natz2 | with_reducible exact natz3 | with_reducible exact natz4 | with_reducible exact natz8); (· first | with_reducible exact natz _ | with_reducible exact natz0 | with_reducible exact natz1 | with_reducible exact natz2 | with_reducible exact natz3 | with_reducible exact natz4 | with_reducible exact natz8); (· omega)) | exact (Int.toNat_of_nonneg (by omega)).symm)) (by omega) (by omega) (by assumption) _ _ _)) | ((refine iDraw ?_; (first | refine WC.drawAll rfl (by decide +kernel) ?_ | refine WC.draw 1 rfl (by decide +kernel) ?_ | refine WC.draw 2 rfl (by decide +kernel) ?_ | refine WC.draw 3 rfl (by decide +kernel) ?_ | refine WC.draw 4 rfl (by decide +kernel) ?_ | refine WC.draw 5 rfl (by decide +kernel) ?_ | refine WC.draw 6 rfl (by decide +kernel) ?_ | refine WC.draw 7 rfl (by decide +kernel) ?_ | refine WC.draw 8 rfl (by decide +kernel) ?_ | refine WC.draw 9 rfl (by decide +kernel) ?_ | refine WC.draw 10 rfl (by decide +kernel) ?_ | refine WC.draw 11 rfl (by decide +kernel) ?_ | refine WC.draw 12 rfl (by decide +kernel) ?_ | refine WC.draw 13 rfl (by decide +kernel) ?_ | refine WC.draw 14 rfl (by decide +kernel) ?_ | refine WC.draw 15 rfl (by decide +kernel) ?_ | refine WC.draw 16 rfl (by decide +kernel) ?_ | refine WC.draw 17 rfl (by decide +kernel) ?_ | refine WC.draw 18 rfl (by decide +kernel) ?_ | refine WC.draw 19 rfl (by decide +kernel) ?_ | refine WC.draw 20 rfl (by decide +kernel) ?_ | refine WC.draw 21 rfl (by decide +kernel) ?_ | refine WC.draw 22 rfl (by decide +kernel) ?_ | refine WC.draw 23 rfl (by decide +kernel) ?_ | refine WC.draw 24 rfl (by decide +kernel) ?_)); (repeat (refine WD.cons rfl (fun c h => by cases h) sq_R12_1 ?_)); refine WD.nil ?_)); (try (refine st ?_; (repeat intro zzc))))); (repeat revert zzc); exact zzn.out) : G := h ⟨next⟩
theorem runesBoundaries_any (l : List UInt8) (k : Int) (hl : l.length ≤ 5000000000000) (w0 : World) (m : Mem) (H : SHeap) :
    Does Try.prog 5 #[str l, .int .i64 k] w0 m H (Gives (.bool true) m H) := by
  refine Does.of_body (args := [str l, .int .i64 k]) Try.func5 rfl Try.ntmps5 rfl ?_
  rcases (show k < 0 ∨ (l.length : Int) < k ∨ (0 ≤ k ∧ k ≤ l.length) by omega) with h | h | h
  · (try (refine st_R12_1 ?_; intros))
    (refine q_fin0 ?_)
    exact Gives.mk rfl
  · (try (refine st_R12_1 ?_; intros))
    (refine q_fin0 ?_)
    exact Gives.mk rfl
  · obtain ⟨n, rfl⟩ : ∃ n : Nat, k = n := ⟨k.toNat, by omega⟩
    by_cases hw : ∃ i, Within l n i
    · obtain ⟨i, hw⟩ := hw
      (try (refine st_R12_1 ?_; intros))
      (refine q_fin0 ?_)
      exact Gives.mk rfl
    · (try (refine st_R12_1 ?_; intros))
      (refine q_fin0 ?_)
      exact Gives.mk rfl
end Go.Proofs.Ytdmdabjaboigcaa

/-
  The walks of Wants and the reference's, of the reference's Begun, and of the law RunesJoins. No condition.
-/
namespace Go.Proofs.Ytdmdabjaboigcaa
open Go Go.Eng
set_option maxRecDepth 100000
set_option maxHeartbeats 4000000
set_option linter.all false
attribute [local irreducible] WL WC WQ QFun QLoop Does Q1 QRound QAssign Go.Addr.add
theorem sq_R33_1 {G : Prop} (h : G := by (repeat (first | (refine sp ?_; (repeat intro zzc)) | (refine iF 80 rfl ?_; refine w_callG Try.func80 ?_ (hs := begun_any _ (by omega) _ _ _)))); exact WQ.q1 rfl) : G := h
theorem st_R33_1 {G G' : Prop} (next : G') (h : Bx G' → G := by intro zzn; (first | ((refine st ?_; (repeat intro zzc)); (try ((first | (refine iF 80 rfl ?_; refine w_callG Try.func80 ?_ (hs := begun_any _ (by omega) _ _ _)) | ((refine iDraw ?_; (first | refine WC.drawAll rfl (by decide +kernel) ?_ | refine WC.draw 1 rfl (by decide +kernel) ?_ | refine WC.draw 2 rfl (by decide +kernel) ?_ | refine WC.draw 3 rfl (by decide +kernel) ?_ | refine WC.draw 4 rfl (by decide +kernel) ?_ | refine WC.draw 5 rfl (by decide +kernel) ?_ | refine WC.draw 6 rfl (by decide +kernel) ?_ | refine WC.draw 7 rfl (by decide +kernel) ?_ | refine WC.draw 8 rfl (by decide +kernel) ?_ | refine WC.draw 9 rfl (by decide +kernel) ?_ | refine WC.draw 10 rfl (by decide +kernel) ?_ | refine WC.draw 11 rfl (by decide +kernel) ?_ | refine WC.draw 12 rfl (by decide +kernel) ?_ | refine WC.draw 13 rfl (by decide +kernel) ?_ | refine WC.draw 14 rfl (by decide +kernel) ?_ | refine WC.draw 15 rfl (by decide +kernel) ?_ | refine WC.draw 16 rfl (by decide +kernel) ?_ | refine WC.draw 17 rfl (by decide +kernel) ?_ | refine WC.draw 18 rfl (by decide +kernel) ?_ | refine WC.draw 19 rfl (by decide +kernel) ?_ | refine WC.draw 20 rfl (by decide +kernel) ?_ | refine WC.draw 21 rfl (by decide +kernel) ?_ | refine WC.draw 22 rfl (by decide +kernel) ?_ | refine WC.draw 23 rfl (by decide +kernel) ?_ | refine WC.draw 24 rfl (by decide +kernel) ?_)); (repeat (refine WD.cons rfl (fun c h => by cases h) sq_R33_1 ?_)); refine WD.nil ?_)); (try (refine st ?_; (repeat intro zzc)))))) | ((first | (refine iF 80 rfl ?_; refine w_callG Try.func80 ?_ (hs := begun_any _ (by omega) _ _ _)) | ((refine iDraw ?_; (first | refine WC.drawAll rfl (by decide +kernel) ?_ | refine WC.draw 1 rfl (by decide +kernel) ?_ | refine WC.draw 2 rfl (by decide +kernel) ?_ | refine WC.draw 3 rfl (by decide +kernel) ?_ | refine WC.draw 4 rfl (by decide +kernel) ?_ | refine WC.draw 5 rfl (by decide +kernel) ?_ | refine WC.draw 6 rfl (by decide +kernel) ?_ | refine WC.draw 7 rfl (by decide +kernel) ?_ | refine WC.draw 8 rfl (by decide +kernel) ?_ | refine WC.draw 9 rfl (by decide +kernel) ?_ | refine WC.draw 10 rfl (by decide +kernel) ?_ | refine WC.draw 11 rfl (by decide +kernel) ?_ | refine WC.draw 12 rfl (by decide +kernel) ?_ | refine WC.draw 13 rfl (by decide +kernel) ?_ | refine WC.draw 14 rfl (by decide +kernel) ?_ | refine WC.draw 15 rfl (by decide +kernel) ?_ | refine WC.draw 16 rfl (by decide +kernel) ?_ | refine WC.draw 17 rfl (by decide +kernel) ?_ | refine WC.draw 18 rfl (by decide +kernel) ?_ | refine WC.draw 19 rfl (by decide +kernel) ?_ | refine WC.draw 20 rfl (by decide +kernel) ?_ | refine WC.draw 21 rfl (by decide +kernel) ?_ | refine WC.draw 22 rfl (by decide +kernel) ?_ | refine WC.draw 23 rfl (by decide +kernel) ?_ | refine WC.draw 24 rfl (by decide +kernel) ?_)); (repeat (refine WD.cons rfl (fun c h => by cases h) sq_R33_1 ?_)); refine WD.nil ?_)); (try (refine st ?_; (repeat intro zzc))))); (repeat ((first | (refine iF 80 rfl ?_; refine w_callG Try.func80 ?_ (hs := begun_any _ (by omega) _ _ _)) | ((refine iDraw ?_; (first | refine WC.drawAll rfl (by decide +kernel) ?_ | refine WC.draw 1 rfl (by decide +kernel) ?_ | refine WC.draw 2 rfl (by decide +kernel) ?_ | refine WC.draw 3 rfl (by decide +kernel) ?_ | refine WC.draw 4 rfl (by decide +kernel) ?_ | refine WC.draw 5 rfl (by decide +kernel) ?_ | refine WC.draw 6 rfl (by decide +kernel) ?_ | refine WC.draw 7 rfl (by decide +kernel) ?_ | refine WC.draw 8 rfl (by decide +kernel) ?_ | refine WC.draw 9 rfl (by decide +kernel) ?_ | refine WC.draw 10 rfl (by decide +kernel) ?_ | refine WC.draw 11 rfl (by decide +kernel) ?_ | refine WC.draw 12 rfl (by decide +kernel) ?_ | refine WC.draw 13 rfl (by decide +kernel) ?_ | refine WC.draw 14 rfl (by decide +kernel) ?_ | refine WC.draw 15 rfl (by decide +kernel) ?_ | refine WC.draw 16 rfl (by decide +kernel) ?_ | refine WC.draw 17 rfl (by decide +kernel) ?_ | refine WC.draw 18 rfl (by decide +kernel) ?_ | refine WC.draw 19 rfl (by decide +kernel) ?_ | refine WC.draw 20 rfl (by decide +kernel) ?_ | refine WC.draw 21 rfl (by decide +kernel) ?_ | refine WC.draw 22 rfl (by decide +kernel) ?_ | refine WC.draw 23 rfl (by decide +kernel) ?_ | refine WC.draw 24 rfl (by decide +kernel) ?_)); (repeat (refine WD.cons rfl (fun c h => by cases h) sq_R33_1 ?_)); refine WD.nil ?_)); (try (refine st ?_; (repeat intro zzc))))); (repeat revert zzc); exact zzn.out) : G := h ⟨next⟩
theorem wants_any (l : List UInt8) (hl : l.length ≤ 9223372036854775804) (w0 : World) (m : Mem) (H : SHeap) : Does Try.prog 57 #[str l] w0 m H (Gives (.int .i64 ((begunOf l).2 : Int)) m H) := by
  refine Does.of_body (args := [str l]) Try.func57 rfl Try.ntmps57 rfl ?_
  (try (refine st_R33_1 ?_; intros))
  (refine q_fin0 ?_)
  exact Gives.mk rfl
attribute [local irreducible] lackOf begunK
theorem lacks_is {b : List UInt8} {n : Nat} (h : lackOf b = n) (h0 : 0 < b.length) (hl : b.length ≤ 1048576) (w0 : World) (m : Mem) (H : SHeap) :
    Does Try.prog 81 #[str b] w0 m H (Gives (.int .i64 (n : Int)) m H) := by subst h; exact lacks_any b h0 hl w0 m H
theorem sq_R33_2 {G : Prop} (h : G := by (repeat (first | (refine sp ?_; (repeat intro zzc)) | (refine iF 81 rfl ?_; refine w_callG Try.func81 ?_ (hs := lacks_is (by assumption) (by omega) (by omega) _ _ _)))); exact WQ.q1 rfl) : G := h
theorem st_R33_2 {G G' : Prop} (next : G') (h : Bx G' → G := by intro zzn; (first | ((refine st ?_; (repeat intro zzc)); (try ((first | (refine iF 81 rfl ?_; refine w_callG Try.func81 ?_ (hs := lacks_is (by assumption) (by omega) (by omega) _ _ _)) | ((refine iDraw ?_; (first | refine WC.drawAll rfl (by decide +kernel) ?_ | refine WC.draw 1 rfl (by decide +kernel) ?_ | refine WC.draw 2 rfl (by decide +kernel) ?_ | refine WC.draw 3 rfl (by decide +kernel) ?_ | refine WC.draw 4 rfl (by decide +kernel) ?_ | refine WC.draw 5 rfl (by decide +kernel) ?_ | refine WC.draw 6 rfl (by decide +kernel) ?_ | refine WC.draw 7 rfl (by decide +kernel) ?_ | refine WC.draw 8 rfl (by decide +kernel) ?_ | refine WC.draw 9 rfl (by decide +kernel) ?_ | refine WC.draw 10 rfl (by decide +kernel) ?_ | refine WC.draw 11 rfl (by decide +kernel) ?_ | refine WC.draw 12 rfl (by decide +kernel) ?_ | refine WC.draw 13 rfl (by decide +kernel) ?_ | refine WC.draw 14 rfl (by decide +kernel) ?_ | refine WC.draw 15 rfl (by decide +kernel) ?_ | refine WC.draw 16 rfl (by decide +kernel) ?_ | refine WC.draw 17 rfl (by decide +kernel) ?_ | refine WC.draw 18 rfl (by decide +kernel) ?_ | refine WC.draw 19 rfl (by decide +kernel) ?_ | refine WC.draw 20 rfl (by decide +kernel) ?_ | refine WC.draw 21 rfl (by decide +kernel) ?_ | refine WC.draw 22 rfl (by decide +kernel) ?_ | refine WC.draw 23 rfl (by decide +kernel) ?_ | refine WC.draw 24 rfl (by decide +kernel) ?_)); (repeat (refine WD.cons rfl (fun c h => by cases h) sq_R33_2 ?_)); refine WD.nil ?_)); (try (refine st ?_; (repeat intro zzc)))))) | ((first | (refine iF 81 rfl ?_; refine w_callG Try.func81 ?_ (hs := lacks_is (by assumption) (by omega) (by omega) _ _ _)) | ((refine iDraw ?_; (first | refine WC.drawAll rfl (by decide +kernel) ?_ | refine WC.draw 1 rfl (by decide +kernel) ?_ | refine WC.draw 2 rfl (by decide +kernel) ?_ | refine WC.draw 3 rfl (by decide +kernel) ?_ | refine WC.draw 4 rfl (by decide +kernel) ?_ | refine WC.draw 5 rfl (by decide +kernel) ?_ | refine WC.draw 6 rfl (by decide +kernel) ?_ | refine WC.draw 7 rfl (by decide +kernel) ?_ | refine WC.draw 8 rfl (by decide +kernel) ?_ | refine WC.draw 9 rfl (by decide +kernel) ?_ | refine WC.draw 10 rfl (by decide +kernel) ?_ | refine WC.draw 11 rfl (by decide +kernel) ?_ | refine WC.draw 12 rfl (by decide +kernel) ?_ | refine WC.draw 13 rfl (by decide +kernel) ?_ | refine WC.draw 14 rfl (by decide +kernel) ?_ | refine WC.draw 15 rfl (by decide +kernel) ?_ | refine WC.draw 16 rfl (by decide +kernel) ?_ | refine WC.draw 17 rfl (by decide +kernel) ?_ | refine WC.draw 18 rfl (by decide +kernel) ?_ | refine WC.draw 19 rfl (by decide +kernel) ?_ | refine WC.draw 20 rfl (by decide +kernel) ?_ | refine WC.draw 21 rfl (by decide +kernel) ?_ | refine WC.draw 22 rfl (by decide +kernel) ?_ | refine WC.draw 23 rfl (by decide +kernel) ?_ | refine WC.draw 24 rfl (by decide +kernel) ?_)); (repeat (refine WD.cons rfl (fun c h => by cases h) sq_R33_2 ?_)); refine WD.nil ?_)); (try (refine st ?_; (repeat intro zzc))))); (repeat ((first | (refine iF 81 rfl ?_; refine w_callG Try.func81 ?_ (hs := lacks_is (by assumption) (by omega) (by omega) _ _ _)) | ((refine iDraw ?_; (first | refine WC.drawAll rfl (by decide +kernel) ?_ | refine WC.draw 1 rfl (by decide +kernel) ?_ | refine WC.draw 2 rfl (by decide +kernel) ?_ | refine WC.draw 3 rfl (by decide +kernel) ?_ | refine WC.draw 4 rfl (by decide +kernel) ?_ | refine WC.draw 5 rfl (by decide +kernel) ?_ | refine WC.draw 6 rfl (by decide +kernel) ?_ | refine WC.draw 7 rfl (by decide +kernel) ?_ | refine WC.draw 8 rfl (by decide +kernel) ?_ | refine WC.draw 9 rfl (by decide +kernel) ?_ | refine WC.draw 10 rfl (by decide +kernel) ?_ | refine WC.draw 11 rfl (by decide +kernel) ?_ | refine WC.draw 12 rfl (by decide +kernel) ?_ | refine WC.draw 13 rfl (by decide +kernel) ?_ | refine WC.draw 14 rfl (by decide +kernel) ?_ | refine WC.draw 15 rfl (by decide +kernel) ?_ | refine WC.draw 16 rfl (by decide +kernel) ?_ | refine WC.draw 17 rfl (by decide +kernel) ?_ | refine WC.draw 18 rfl (by decide +kernel) ?_ | refine WC.draw 19 rfl (by decide +kernel) ?_ | refine WC.draw 20 rfl (by decide +kernel) ?_ | refine WC.draw 21 rfl (by decide +kernel) ?_ | refine WC.draw 22 rfl (by decide +kernel) ?_ | refine WC.draw 23 rfl (by decide +kernel) ?_ | refine WC.draw 24 rfl (by decide +kernel) ?_)); (repeat (refine WD.cons rfl (fun c h => by cases h) sq_R33_2 ?_)); refine WD.nil ?_)); (try (refine st ?_; (repeat intro zzc))))); (repeat revert zzc); exact zzn.out) : G := h ⟨next⟩
theorem refWants_any (l : List UInt8) (hl : l.length ≤ 9223372036854775804) (w0 : World) (m : Mem) (H : SHeap) : Does Try.prog 58 #[str l] w0 m H (Gives (.int .i64 ((begunOf l).2 : Int)) m H) := by
  refine Does.of_body (args := [str l]) Try.func58 rfl Try.ntmps58 rfl ?_
  (try (refine st_R33_2 ?_; intros))
  refine WC.loopH [(3, .int .i64 ((1) : Int)), (0, str l)] ?_ ?_ (fun j r ds m' H' => ∃ k, j = 4 - k ∧ r = [(3, .int .i64 (k : Int)), (0, str l)] ∧ ds = [] ∧ m = m' ∧ H' = H ∧ (1 ≤ k ∧ k ≤ 4) ∧ (begunOf l = begunK l (4 - k))) (4 - (1)) ⟨1, rfl, rfl, rfl, rfl, rfl, by omega, rfl⟩ ?_
  · (repeat (first | exact Env.Sub.nil | refine Env.Sub.cons rfl ?_))
  · exact (fun w h => Pick.sat (by iterate 60 (try (first | exact Pick.all | (apply Pick.take; (· (repeat (first | exact Out.here | apply Out.there)))) | apply Pick.drop))) h)
  rintro j r ds m' H' ⟨k, rfl, rfl, rfl, rfl, rfl, hk, hbk⟩
  generalize H' = H
  by_cases hk3 : k ≤ 3
  · by_cases hkl : k ≤ l.length
    · obtain ⟨b, hb⟩ : ∃ b, l.drop (l.length - k) = b := ⟨_, rfl⟩
      have hbl : b.length = k := by rw [← hb]; simp; omega
      have hty := begun_yes hk.1 hk3 hkl
      have htn := begun_next hk.1 hk3 hkl
      have hlp := lack_pos (b := b)
      rw [hb] at hty htn
      obtain ⟨n, hn⟩ : ∃ n, lackOf b = n := ⟨_, rfl⟩
      rw [hn] at hlp
      (try (refine st_R33_2 ?_; intros))
      rw [hb]
      by_cases h0 : 0 < n
      · (try (refine st_R33_2 ?_; intros))
        (refine q_fin0 ?_)
        exact Gives.mk (by rw [hbk, hty (hlp.1 h0), hn])
      · (try (refine st_R33_2 ?_; intros))
        refine WQ.next (4 - (k + 1)) ⟨k + 1, rfl, rfl, rfl, rfl, rfl, ?_, ?_⟩ (by omega) (by (repeat (first | exact Env.Sub.nil | refine Env.Sub.cons rfl ?_))) (fun w h => Pick.sat (by iterate 60 (try (first | exact Pick.all | (apply Pick.take; (· (repeat (first | exact Out.here | apply Out.there)))) | apply Pick.drop))) h)
        · omega
        · rw [hbk, htn (fun h => h0 (hlp.2 h))]
    · have he := begun_end (l := l) hk.1 (fun _ => by omega)
      (try (refine st_R33_2 ?_; intros))
      (refine q_fin0 ?_)
      exact Gives.mk (by rw [hbk, he]; rfl)
  · have he := begun_end (l := l) hk.1 (fun h => absurd h hk3)
    (try (refine st_R33_2 ?_; intros))
    (refine q_fin0 ?_)
    exact Gives.mk (by rw [hbk, he]; rfl)
/-- what lies behind what was told -/
def restOf (l : List UInt8) : List UInt8 := l.drop (l.length - (begunOf l).1)
theorem refBegun_any (l : List UInt8) (hl : l.length ≤ 9223372036854775804) (w0 : World) (m : Mem) (H : SHeap) : Does Try.prog 84 #[str l] w0 m H (Gives (str (restOf l)) m H) := by
  refine Does.of_body (args := [str l]) Try.func84 rfl Try.ntmps84 rfl ?_
  (try (refine st_R33_2 ?_; intros))
  refine WC.loopH [(3, .int .i64 ((1) : Int)), (0, str l)] ?_ ?_ (fun j r ds m' H' => ∃ k, j = 4 - k ∧ r = [(3, .int .i64 (k : Int)), (0, str l)] ∧ ds = [] ∧ m = m' ∧ H' = H ∧ (1 ≤ k ∧ k ≤ 4) ∧ (begunOf l = begunK l (4 - k))) (4 - (1)) ⟨1, rfl, rfl, rfl, rfl, rfl, by omega, rfl⟩ ?_
  · (repeat (first | exact Env.Sub.nil | refine Env.Sub.cons rfl ?_))
  · exact (fun w h => Pick.sat (by iterate 60 (try (first | exact Pick.all | (apply Pick.take; (· (repeat (first | exact Out.here | apply Out.there)))) | apply Pick.drop))) h)
  rintro j r ds m' H' ⟨k, rfl, rfl, rfl, rfl, rfl, hk, hbk⟩
  generalize H' = H
  by_cases hk3 : k ≤ 3
  · by_cases hkl : k ≤ l.length
    · obtain ⟨b, hb⟩ : ∃ b, l.drop (l.length - k) = b := ⟨_, rfl⟩
      have hbl : b.length = k := by rw [← hb]; simp; omega
      have hty := begun_yes hk.1 hk3 hkl
      have htn := begun_next hk.1 hk3 hkl
      have hlp := lack_pos (b := b)
      rw [hb] at hty htn
      obtain ⟨n, hn⟩ : ∃ n, lackOf b = n := ⟨_, rfl⟩
      rw [hn] at hlp
      (try (refine st_R33_2 ?_; intros))
      rw [hb]
      by_cases h0 : 0 < n
      · (try (refine st_R33_2 ?_; intros))
        (refine q_fin0 ?_)
        exact Gives.mk (by rw [restOf, hbk, hty (hlp.1 h0)])
      · (try (refine st_R33_2 ?_; intros))
        refine WQ.next (4 - (k + 1)) ⟨k + 1, rfl, rfl, rfl, rfl, rfl, ?_, ?_⟩ (by omega) (by (repeat (first | exact Env.Sub.nil | refine Env.Sub.cons rfl ?_))) (fun w h => Pick.sat (by iterate 60 (try (first | exact Pick.all | (apply Pick.take; (· (repeat (first | exact Out.here | apply Out.there)))) | apply Pick.drop))) h)
        · omega
        · rw [hbk, htn (fun h => h0 (hlp.2 h))]
    · have he := begun_end (l := l) hk.1 (fun _ => by omega)
      (try (refine st_R33_2 ?_; intros))
      (refine q_fin0 ?_)
      exact Gives.mk (by rw [restOf, hbk, he]; simp [str])
  · have he := begun_end (l := l) hk.1 (fun h => absurd h hk3)
    (try (refine st_R33_2 ?_; intros))
    (refine q_fin0 ?_)
    exact Gives.mk (by rw [restOf, hbk, he]; simp [str])
theorem eq_span_same2 (a b : Int) : eqB Try.prog 8 42 (.agg #[.int .i64 a, .int .i64 b]) (.agg #[.int .i64 a, .int .i64 b]) = some true := (eq_span _ _ _ _).trans (by rw [dcd_true ⟨rfl, rfl⟩])
theorem sq_R33_3 {G : Prop} (h : G := by (repeat (first | (refine sp ?_; (repeat intro zzc)) | (refine iB_eql rfl ?_; refine w_eqlV ?_ (he := eq_span_same2 _ _)) | (refine iB_neq rfl ?_; refine w_neqV ?_ (he := eq_span_same2 _ _)) | (refine iF 15 rfl ?_; refine w_callG Try.func15 ?_ (hs := wakes_any _ _ _)) | (refine iF 55 rfl ?_; refine w_callG Try.func55 ?_ (hs := seam_any_yes _ _ _ (by omega) (by omega) (by assumption) _ _ _)) | (refine iF 55 rfl ?_; refine w_callG Try.func55 ?_ (hs := seam_any_no _ _ (by omega) (by omega) (by assumption) _ _ _)) | (refine iF 56 rfl ?_; refine w_callG Try.func56 ?_ (hs := refSeam_yes _ _ _ (by omega) (by omega) (by assumption) _ _ _)) | (refine iF 56 rfl ?_; refine w_callG Try.func56 ?_ (hs := refSeam_no _ _ (by omega) (by omega) (by assumption) _ _ _)) | (refine iF 57 rfl ?_; refine w_callG Try.func57 ?_ (hs := wants_any _ (by omega) _ _ _)) | (refine iF 58 rfl ?_; refine w_callG Try.func58 ?_ (hs := refWants_any _ (by omega) _ _ _)))); exact WQ.q1 rfl) : G := h
theorem st_R33_3 {G G' : Prop} (next : G') (h : Bx G' → G := by intro zzn; (first | ((refine st ?_; (repeat intro zzc)); (try ((first | (refine iB_eql rfl ?_; refine w_eqlV ?_ (he := eq_span_same2 _ _)) | (refine iB_neq rfl ?_; refine w_neqV ?_ (he := eq_span_same2 _ _)) | (refine iF 15 rfl ?_; refine w_callG Try.func15 ?_ (hs := wakes_any _ _ _)) | (refine iF 55 rfl ?_; refine w_callG Try.func55 ?_ (hs := seam_any_yes _ _ _ (by omega) (by omega) (by assumption) _ _ _)) | (refine iF 55 rfl ?_; refine w_callG Try.func55 ?_ (hs := seam_any_no _ _ (by omega) (by omega) (by assumption) _ _ _)) | (refine iF 56 rfl ?_; refine w_callG Try.func56 ?_ (hs := refSeam_yes _ _ _ (by omega) (by omega) (by assumption) _ _ _)) | (refine iF 56 rfl ?_; refine w_callG Try.func56 ?_ (hs := refSeam_no _ _ (by omega) (by omega) (by assumption) _ _ _)) | (refine iF 57 rfl ?_; refine w_callG Try.func57 ?_ (hs := wants_any _ (by omega) _ _ _)) | (refine iF 58 rfl ?_; refine w_callG Try.func58 ?_ (hs := refWants_any _ (by omega) _ _ _)) | ((refine iDraw ?_; (first | refine WC.drawAll rfl (by decide +kernel) ?_ | refine WC.draw 1 rfl (by decide +kernel) ?_ | refine WC.draw 2 rfl (by decide +kernel) ?_ | refine WC.draw 3 rfl (by decide +kernel) ?_ | refine WC.draw 4 rfl (by decide +kernel) ?_ | refine WC.draw 5 rfl (by decide +kernel) ?_ | refine WC.draw 6 rfl (by decide +kernel) ?_ | refine WC.draw 7 rfl (by decide +kernel) ?_ | refine WC.draw 8 rfl (by decide +kernel) ?_ | refine WC.draw 9 rfl (by decide +kernel) ?_ | refine WC.draw 10 rfl (by decide +kernel) ?_ | refine WC.draw 11 rfl (by decide +kernel) ?_ | refine WC.draw 12 rfl (by decide +kernel) ?_ | refine WC.draw 13 rfl (by decide +kernel) ?_ | refine WC.draw 14 rfl (by decide +kernel) ?_ | refine WC.draw 15 rfl (by decide +kernel) ?_ | refine WC.draw 16 rfl (by decide +kernel) ?_ | refine WC.draw 17 rfl (by decide +kernel) ?_ | refine WC.draw 18 rfl (by decide +kernel) ?_ | refine WC.draw 19 rfl (by decide +kernel) ?_ | refine WC.draw 20 rfl (by decide +kernel) ?_ | refine WC.draw 21 rfl (by decide +kernel) ?_ | refine WC.draw 22 rfl (by decide +kernel) ?_ | refine WC.draw 23 rfl (by decide +kernel) ?_ | refine WC.draw 24 rfl (by decide +kernel) ?_)); (repeat (refine WD.cons rfl (fun c h => by cases h) sq_R33_3 ?_)); refine WD.nil ?_)); (try (refine st ?_; (repeat intro zzc)))))) | ((first | (refine iB_eql rfl ?_; refine w_eqlV ?_ (he := eq_span_same2 _ _)) | (refine iB_neq rfl ?_; refine w_neqV ?_ (he := eq_span_same2 _ _)) | (refine iF 15 rfl ?_; refine w_callG Try.func15 ?_ (hs := wakes_any _ _ _)) | (refine iF 55 rfl ?_; refine w_callG Try.func55 ?_ (hs := seam_any_yes _ _ _ (by omega) (by omega) (by assumption) _ _ _)) | (refine iF 55 rfl ?_; refine w_callG Try.func55 ?_ (hs := seam_any_no _ _ (by omega) (by omega) (by assumption) _ _ _)) | (refine iF 56 rfl ?_; refine w_callG Try.func56 ?_ (hs := refSeam_yes _ _ _ (by omega) (by omega) (by assumption) _ _ _)) | (refine iF 56 rfl ?_; refine w_callG Try.func56 ?_ (hs := refSeam_no _ _ (by omega) (by omega) (by assumption) _ _ _)) | (refine iF 57 rfl ?_; refine w_callG Try.func57 ?_ (hs := wants_any _ (by omega) _ _ _)) | (refine iF 58 rfl ?_; refine w_callG Try.func58 ?_ (hs := refWants_any _ (by omega) _ _ _)) | ((refine iDraw ?_; (first | refine WC.drawAll rfl (by decide +kernel) ?_ | refine WC.draw 1 rfl (by decide +kernel) ?_ | refine WC.draw 2 rfl (by decide +kernel) ?_ | refine WC.draw 3 rfl (by decide +kernel) ?_ | refine WC.draw 4 rfl (by decide +kernel) ?_ | refine WC.draw 5 rfl (by decide +kernel) ?_ | refine WC.draw 6 rfl (by decide +kernel) ?_ | refine WC.draw 7 rfl (by decide +kernel) ?_ | refine WC.draw 8 rfl (by decide +kernel) ?_ | refine WC.draw 9 rfl (by decide +kernel) ?_ | refine WC.draw 10 rfl (by decide +kernel) ?_ | refine WC.draw 11 rfl (by decide +kernel) ?_ | refine WC.draw 12 rfl (by decide +kernel) ?_ | refine WC.draw 13 rfl (by decide +kernel) ?_ | refine WC.draw 14 rfl (by decide +kernel) ?_ | refine WC.draw 15 rfl (by decide +kernel) ?_ | refine WC.draw 16 rfl (by decide +kernel) ?_ | refine WC.draw 17 rfl (by decide +kernel) ?_ | refine WC.draw 18 rfl (by decide +kernel) ?_ | refine WC.draw 19 rfl (by decide +kernel) ?_ | refine WC.draw 20 rfl (by decide +kernel) ?_ | refine WC.draw 21 rfl (by decide +kernel) ?_ | refine WC.draw 22 rfl (by decide +kernel) ?_ | refine WC.draw 23 rfl (by decide +kernel) ?_ | refine WC.draw 24 rfl (by decide +kernel) ?_)); (repeat (refine WD.cons rfl (fun c h => by cases h) sq_R33_3 ?_)); refine WD.nil ?_)); (try (refine st ?_; (repeat intro zzc))))); (repeat ((first | (refine iB_eql rfl ?_; refine w_eqlV ?_ (he := eq_span_same2 _ _)) | (refine iB_neq rfl ?_; refine w_neqV ?_ (he := eq_span_same2 _ _)) | (refine iF 15 rfl ?_; refine w_callG Try.func15 ?_ (hs := wakes_any _ _ _)) | (refine iF 55 rfl ?_; refine w_callG Try.func55 ?_ (hs := seam_any_yes _ _ _ (by omega) (by omega) (by assumption) _ _ _)) | (refine iF 55 rfl ?_; refine w_callG Try.func55 ?_ (hs := seam_any_no _ _ (by omega) (by omega) (by assumption) _ _ _)) | (refine iF 56 rfl ?_; refine w_callG Try.func56 ?_ (hs := refSeam_yes _ _ _ (by omega) (by omega) (by assumption) _ _ _)) | (refine iF 56 rfl ?_; refine w_callG Try.func56 ?_ (hs := refSeam_no _ _ (by omega) (by omega) (by assumption) _ _ _)) | (refine iF 57 rfl ?_; refine w_callG Try.func57 ?_ (hs := wants_any _ (by omega) _ _ _)) | (refine iF 58 rfl ?_; refine w_callG Try.func58 ?_ (hs := refWants_any _ (by omega) _ _ _)) | ((refine iDraw ?_; (first | refine WC.drawAll rfl (by decide +kernel) ?_ | refine WC.draw 1 rfl (by decide +kernel) ?_ | refine WC.draw 2 rfl (by decide +kernel) ?_ | refine WC.draw 3 rfl (by decide +kernel) ?_ | refine WC.draw 4 rfl (by decide +kernel) ?_ | refine WC.draw 5 rfl (by decide +kernel) ?_ | refine WC.draw 6 rfl (by decide +kernel) ?_ | refine WC.draw 7 rfl (by decide +kernel) ?_ | refine WC.draw 8 rfl (by decide +kernel) ?_ | refine WC.draw 9 rfl (by decide +kernel) ?_ | refine WC.draw 10 rfl (by decide +kernel) ?_ | refine WC.draw 11 rfl (by decide +kernel) ?_ | refine WC.draw 12 rfl (by decide +kernel) ?_ | refine WC.draw 13 rfl (by decide +kernel) ?_ | refine WC.draw 14 rfl (by decide +kernel) ?_ | refine WC.draw 15 rfl (by decide +kernel) ?_ | refine WC.draw 16 rfl (by decide +kernel) ?_ | refine WC.draw 17 rfl (by decide +kernel) ?_ | refine WC.draw 18 rfl (by decide +kernel) ?_ | refine WC.draw 19 rfl (by decide +kernel) ?_ | refine WC.draw 20 rfl (by decide +kernel) ?_ | refine WC.draw 21 rfl (by decide +kernel) ?_ | refine WC.draw 22 rfl (by decide +kernel) ?_ | refine WC.draw 23 rfl (by decide +kernel) ?_ | refine WC.draw 24 rfl (by decide +kernel) ?_)); (repeat (refine WD.cons rfl (fun c h => by cases h) sq_R33_3 ?_)); refine WD.nil ?_)); (try (refine st ?_; (repeat intro zzc))))); (repeat revert zzc); exact zzn.out) : G := h ⟨next⟩
theorem runesJoins_any (a b : List UInt8) (ha : a.length ≤ 1099511627776) (hb : b.length ≤ 1099511627776) (w0 : World) (m : Mem) (H : SHeap) :
    Does Try.prog 13 #[str a, str b] w0 m H (fun v m' _ => v = .bool true ∧ m.le m') := by
  refine Does.of_body (args := [str a, str b]) Try.func13 rfl Try.ntmps13 rfl ?_
  have hab : (a ++ b).length = a.length + b.length := by simp
  by_cases h : ∃ i, Within (a ++ b) a.length i
  · obtain ⟨i, hi⟩ := h
    (try (refine st_R33_3 ?_; intros))
    (refine q_fin0 ?_)
    exact ⟨rfl, Mem.le.refl _⟩
  · (try (refine st_R33_3 ?_; intros))
    (refine q_fin0 ?_)
    exact ⟨rfl, Mem.le.refl _⟩
end Go.Proofs.Ytdmdabjaboigcaa

/-
  A walk's engine, sixteenth part: how a law's arguments are read, ahead of the call and behind it. No condition.
-/
set_option linter.all false
namespace Go.Eng
open Go Go.RowKit Go.ChangeShapes Go.WideShapes Go.ChangeMaps
section
variable {H : Type} {enc : TypeId × Value → H} {P : Program}
theorem same_below {W W' : World} (hb : Below W.heap.size W W') {p : MemPlace} (hp : p.block < W.heap.size) : W.sameAt W' p := by
  cases p with
  | cell b off =>
    have h := hb.block b hp
    show W'.cell? ⟨b, off, none⟩ = W.cell? ⟨b, off, none⟩
    simp only [World.cell?, h]
  | map b => exact hb.block b hp
theorem trod_again {W W' : World} {sp : Nat → Bool} {t : TypeId} {v : Value} {d : DataW H} {p : List MemPlace} (hl : laidOutB P = true) (ht : t < P.types.size) (hr : P.readableRec t = true)
    (h : DataW.Trod enc P W 0 (fun _ => true) true t v d p) (hlt : ∀ q ∈ p, q.block < W.heap.size) (hb : Below W.heap.size W W') (hs : ∀ q ∈ p, sp q.block = true) : DataW.Trod enc P W' 0 sp true t v d p := by
  obtain ⟨n, hn⟩ := h
  have h1 := DataW.trod_carry (w' := W') n _ _ _ hn (fun q hq => same_below hb (hlt q hq))
  exact ⟨n, DataW.trod_respare (kids_book hl hr) (fun t e hT hu => book_sized hr hT hu) n _ _ _ ⟨ht, book_self t⟩ h1 hs⟩
theorem args_again {W W' : World} {sp : Nat → Bool} (hl : laidOutB P = true) (hb : Below W.heap.size W W') : ∀ {ts : List TypeId} {vs : List Value} {ds : List (DataW H)} {p : List MemPlace},
    (∀ t ∈ ts, t < P.types.size ∧ P.readableRec t = true) → DataW.TrodAll enc P W 0 (fun _ => true) true ts vs ds p → (∀ q ∈ p, sp q.block = true) → DataW.TrodAll enc P W' 0 sp true ts vs ds p
  | [], [], [], _, _, h, _ => h
  | t :: ts, v :: vs, d :: ds, p, hts, h, hs => by
    have hlt := DataW.TrodAll.lt h
    obtain ⟨a, b, h1, h2, e⟩ := h
    subst e
    obtain ⟨g1, g2⟩ := hts t List.mem_cons_self
    exact ⟨a, b, trod_again hl g1 g2 h1 (fun q hq => hlt q (List.mem_append_left _ hq)) hb (fun q hq => hs q (List.mem_append_left _ hq)),
      args_again hl hb (fun t ht => hts t (List.mem_cons_of_mem _ ht)) h2 (fun q hq => hs q (List.mem_append_right _ hq)), rfl⟩
/-- a law that says true, and leaves all that it was handed -/
theorem post_true {f : Func} {s : ChangeSpec} {apart fresh handsOn again : Bool} {W W' : World} {args : Array Value} {ds gs : List (DataW H)} {before : List MemPlace} {tb : TypeId}
    (hW : DataW.Whole enc P f.params.toList s.vars apart W args.toList ds gs before) (hvars : s.vars = []) (hfn : s.fn H (ds ++ gs) = { results := [.lit (.bool true)], args := ds })
    (hres : f.resultTypes = #[tb]) (htb : P.underlying tb = some .bool) (hl : laidOutB P = true) (hts : (f.params.toList.all fun t => decide (t < P.types.size) && P.readableRec t) = true) (hb : Below W.heap.size W W') :
    s.post enc P f apart fresh handsOn again W args (.bool true) W' := by
  have hW2 := hW
  obtain ⟨p, q, hA, hV, e, _, _⟩ := hW
  rw [hvars] at hV
  obtain ⟨rfl, rfl⟩ := trodVars_none hV
  rw [List.append_nil] at e
  subst e
  have hts' : ∀ t ∈ f.params.toList, t < P.types.size ∧ P.readableRec t = true := fun t ht => by simpa using List.all_eq_true.1 hts t ht
  refine post_below (pa := before) (pv := []) hW2 (fun _ _ _ => ?_) (fun sp hs => ?_) (fun _ _ => ?_) (by simp) hb ?_
  · rw [hfn, hres]; exact trodAll_cons_mk (shut_bool htb _) trodAll_mk0
  · rw [hfn]; exact args_again hl hb hts' hA hs
  · rw [hfn, hvars]; rfl
  · intro j t r h1 h2
    rw [hres] at h1 h2
    match j, h1 with
    | 0, h1 =>
      simp at h1; subst h1
      simp [Value.resultList] at h2
      subst h2
      exact okWide_bool_mk htb _
/-- a slice that came in, of elements of one cell -/
theorem RowR.came {w0 W : World} {Hp : SHeap} {sz : Nat} {a : Option Addr} {es : List (List Value)} (h1 : ∀ e ∈ es, e.length = sz)
    (h2 : match a with | .none => es = [] | .some b => ∀ j v, es.flatten[j]? = .some v → W.cell? (b.add j) = .some v) : RowR w0 (memOf W) Hp sz a es := by
  intro w hs
  refine ⟨h1, ?_⟩
  cases a with
  | none => exact h2
  | some b =>
    intro j v hj
    have hc := h2 j v hj
    generalize b.add j = c at hc ⊢
    obtain ⟨b, o, s⟩ := c
    cases hh : W.heap[b]? with
    | none => cases s <;> simp [World.cell?, hh] at hc
    | some ob =>
      have := hs.pers b ob hh
      cases s <;> simpa [World.cell?, this, hh] using hc
theorem at_map {α : Type} {f : α → Value} {l : List α} {j : Nat} {v : Value} (h : (l.map fun x => [f x]).flatten[j]? = .some v) : ∃ x, l[j]? = .some x ∧ v = f x := by
  rw [flatten_single, List.getElem?_map] at h
  obtain ⟨x, h1, h2⟩ := Option.map_eq_some_iff.1 h
  exact ⟨x, h1, h2.symm⟩
/-- slices of elements of one cell -/
theorem open_ones {α : Type} [Inhabited α] (val : α → Value) (lit : α → Lit) {W : World} {r : Go.Reach} {b0 : Nat} {t e : TypeId} {v : Value} {d : DataW H} {ps : List MemPlace} (ht : P.underlying t = some (.slice e)) (hc : P.cellsOf e = 1)
    (hone : ∀ (n : Nat) (u : Value) (y : DataW H × List MemPlace), DataW.trod enc P W 0 (fun _ => true) true n e [u] = some y → ∃ x, u = val x ∧ y.1 = .lit (lit x) ∧ (lit x).wf = true)
    (hval : Value.okWide P W r b0 t v) (h : DataW.Trod enc P W 0 (fun _ => true) true t v d ps) : ∃ (a : Option Addr) (cap : Nat) (ns : List α) (spare : List (DataW H)), v = .slice a ns.length cap ∧ ns.length ≤ cap ∧ (∀ x ∈ ns, (lit x).wf = true) ∧
      (d = .nil ∧ ns = [] ∨ d = .slice (ns.map fun x => .lit (lit x)) spare) ∧ (ns ≠ [] ∨ cap = 0 ∨ True) ∧ ∀ w0 Hp, RowR w0 (memOf W) Hp 1 a (ns.map fun x => [val x]) := by
  obtain ⟨a, len, cap, rfl⟩ := okWide_slice ht hval
  obtain ⟨n, hn⟩ := h
  rcases Deep.open_slice1 ht hc hn with ⟨h1, h2⟩ | ⟨a', len', cap', m, n', V, D, Pl, h1, _, hle, _, hm, h2, hx⟩
  · simp [Value.cells] at h1
    obtain ⟨rfl, rfl, rfl⟩ := h1
    exact ⟨none, 0, [], [], rfl, Nat.le_refl _, (by simp), .inl ⟨congrArg Prod.fst h2, rfl⟩, .inr (.inr trivial), fun _ _ => RowR.nil⟩
  · simp [Value.cells] at h1
    obtain ⟨rfl, rfl, rfl⟩ := h1
    simp only [if_true] at hm
    subst hm
    obtain ⟨X, hX⟩ := Deep.choose_lt (α := α) (n := m) (p := fun i x => V i = val x ∧ D i = .lit (lit x) ∧ (lit x).wf = true) (fun i hi => by
      obtain ⟨_, g⟩ := hx i hi
      exact hone _ _ _ g)
    refine ⟨some a', m, (List.range len).map X, (List.range (m - len)).map fun j => D (len + j), by simp, by simpa using hle, ?_, .inr ?_, .inr (.inr trivial), fun w0 Hp => ?_⟩
    · intro x hxm
      obtain ⟨i, hi, rfl⟩ := List.mem_map.1 hxm
      exact (hX i (by have := List.mem_range.1 hi; omega)).2.2
    · have := congrArg Prod.fst h2
      simp only at this
      rw [this, List.map_map]
      congr 1
      exact List.map_congr_left fun i hi => (hX i (by have := List.mem_range.1 hi; omega)).2.1
    · refine RowR.came (by simp) ?_
      intro j v hj
      obtain ⟨x, hx1, rfl⟩ := at_map hj
      rw [List.getElem?_map] at hx1
      obtain ⟨i, hi, rfl⟩ := Option.map_eq_some_iff.1 hx1
      obtain ⟨hjl, rfl⟩ := List.getElem?_eq_some_iff.1 hi
      rw [List.getElem_range]
      have hjl' : j < len := by simpa using hjl
      rw [← (hX j (by omega)).1]
      exact (hx j (by omega)).1
theorem open_nums {W : World} {r : Go.Reach} {b0 : Nat} {t e : TypeId} {k : IntKind} {v : Value} {d : DataW H} {ps : List MemPlace} (ht : P.underlying t = some (.slice e)) (he : P.underlying e = some (.int k)) (hc : P.cellsOf e = 1)
    (hval : Value.okWide P W r b0 t v) (h : DataW.Trod enc P W 0 (fun _ => true) true t v d ps) : ∃ (a : Option Addr) (cap : Nat) (ns : List Int) (spare : List (DataW H)), v = .slice a ns.length cap ∧ ns.length ≤ cap ∧ (∀ x ∈ ns, (Lit.int k x).wf = true) ∧
      (d = .nil ∧ ns = [] ∨ d = .slice (ns.map fun x => .lit (.int k x)) spare) ∧ ∀ w0 Hp, RowR w0 (memOf W) Hp 1 a (ns.map fun x => [Value.int k x]) := by
  obtain ⟨a, cap, ns, sp, h1, h2, h3, h4, _, h5⟩ := open_ones (Value.int k) (Lit.int k) ht hc (fun n u y hy => by
    obtain ⟨x, hx, hy', hw⟩ := DataW.trod_int he hy
    simp at hx
    exact ⟨x, hx, congrArg Prod.fst hy', hw⟩) hval h
  exact ⟨a, cap, ns, sp, h1, h2, h3, h4, h5⟩
theorem open_texts {W : World} {r : Go.Reach} {b0 : Nat} {t e : TypeId} {v : Value} {d : DataW H} {ps : List MemPlace} (ht : P.underlying t = some (.slice e)) (he : P.underlying e = some .string) (hc : P.cellsOf e = 1)
    (hval : Value.okWide P W r b0 t v) (h : DataW.Trod enc P W 0 (fun _ => true) true t v d ps) : ∃ (a : Option Addr) (cap : Nat) (ns : List (List UInt8)) (spare : List (DataW H)), v = .slice a ns.length cap ∧ ns.length ≤ cap ∧
      (d = .nil ∧ ns = [] ∨ d = .slice (ns.map fun x => .lit (.string x)) spare) ∧ ∀ w0 Hp, RowR w0 (memOf W) Hp 1 a (ns.map fun x => [str x]) := by
  obtain ⟨a, cap, ns, sp, h1, h2, h3, h4, _, h5⟩ := open_ones (α := List UInt8) str Lit.string ht hc (fun n u y hy => by
    obtain ⟨x, hx, hy', hw⟩ := DataW.trod_string he hy
    simp at hx
    refine ⟨x.data.toList, by rw [hx], congrArg Prod.fst hy', ?_⟩
    simpa [Lit.wf] using hw) hval h
  exact ⟨a, cap, ns, sp, h1, h2, h4, h5⟩
end
end Go.Eng

