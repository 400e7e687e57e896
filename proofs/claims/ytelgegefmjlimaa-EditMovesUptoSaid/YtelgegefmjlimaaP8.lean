/-
  Parts of a walk, joined: E11 E12 ET8 E10 E13 EngV EV LM0. No condition.
-/
import Derived.Test.YtelgegefmjlimaaP6
import Derived.Test.YtelgegefmjlimaaP7
import Derived.Deep.Strs
import Derived.Test.YtelgegefmjlimaaRows
/-
  The walk of the reference's Say: a change place by place. No condition.
-/
namespace Go.Eng
open Go
def sV (s : List UInt8) : List Value := [str s]
def oV (b : Bool) : List Value := [.bool b]
def uV (b : UInt8) : List Value := [.int .u8 (b.toNat : Int)]
theorem pads_len {N : Nat} {g : Gs} (h : atOf g ≤ N) : ((putsPad N g).map sV).length = N + 1 ∧ ((dropsPad N g).map oV).length = N ∧ ((bytesPad N g).map uV).length = N := by
  have h1 : gapAt g ≤ atOf g := by unfold atOf; omega
  have hl := (flat_lens g.done).2
  refine ⟨?_, ?_, ?_⟩
  · rw [List.length_map, putsPad, pad_length]
    rw [List.length_append, List.length_singleton, hl]
    unfold gapAt at h1; omega
  · rw [List.length_map, dropsPad, pad_length]; rw [dropsOf_len]; exact h
  · rw [List.length_map, bytesPad, pad_length]; rw [bytesOf_len]; exact h
theorem pads_start (N : Nat) : (putsPad N Gs.start).map sV = List.replicate (N + 1) [str []] ∧ (dropsPad N Gs.start).map oV = List.replicate N [.bool false] ∧ (bytesPad N Gs.start).map uV = List.replicate N [.int .u8 0] := by
  refine ⟨?_, ?_, ?_⟩
  · simp [putsPad, pad, Gs.start, sV, List.replicate_succ]
  · simp [dropsPad, pad, Gs.start, oV, dropsOf]
  · simp [bytesPad, pad, Gs.start, uV, bytesOf]
theorem put_nil (g : Gs) : g.put [] = g := by cases g; simp [Gs.put]
def Gs.drops (g : Gs) (s : List UInt8) : Gs := ⟨g.done, ⟨g.cur.p, g.cur.d ++ s⟩⟩
theorem drops_nil (g : Gs) : g.drops [] = g := by cases g; simp [Gs.drops]
theorem drops_snoc (g : Gs) (s : List UInt8) (b : UInt8) : g.drops (s ++ [b]) = (g.drops s).byte b := by simp [Gs.drops, Gs.byte]
theorem drops_at (g : Gs) (s : List UInt8) : atOf (g.drops s) = atOf g + s.length ∧ gapAt (g.drops s) = gapAt g := by
  simp [atOf, gapAt, Gs.drops]; omega
theorem put_at (g : Gs) (s : List UInt8) : atOf (g.put s) = atOf g ∧ gapAt (g.put s) = gapAt g := ⟨rfl, rfl⟩
theorem step_parts {g : Gs} {x : Stp} (h : stpOk x) : g.step x = if 0 < x.k then ((g.put x.p).drops x.d).keeps x.k.toNat else (g.put x.p).drops x.d := by
  obtain ⟨k, d, p⟩ := x
  rcases h with ⟨h1, h2, h3⟩ | ⟨h1, h2, h3⟩ | ⟨h1, h2, h3⟩
  · simp only at h1 h2 h3
    subst h2; subst h3
    simp only [h1, if_true, put_nil, drops_nil]
    simp [Gs.step, h1, Gs.keeps]
  · simp only at h1 h2 h3
    subst h1; subst h3
    simp [Gs.step, h2, put_nil, Gs.drops]
  · simp only at h1 h2 h3
    subst h1; subst h2
    simp [Gs.step, drops_nil, Gs.put]
theorem gb_at {l : List UInt8} {k : Nat} (h : k < l.length) : gb l k = (l[k]).toNat := by unfold gb; rw [List.getD_eq_getElem?_getD, List.getElem?_eq_getElem h]; rfl
theorem toA_le : ∀ l : List Atm, toA l ≤ l.length
  | [] => Nat.le_refl _
  | .k :: l => by have := toA_le l; simp only [toA, List.length_cons]; omega
  | .d _ :: l => by have := toA_le l; simp only [toA, List.length_cons]; omega
  | .p _ :: l => by have := toA_le l; simp only [toA, List.length_cons]; omega
theorem cur_len {l : List Stp} (h : ∀ s ∈ l, stpOk s) (i : Nat) : (gapsOf (l.take i)).cur.p.length ≤ (atomsOf l).length := by
  have h1 := (nf_sizes (l.take i) (fun s hs => h s (List.mem_of_mem_take hs))).2
  have h2 := toA_le (atomsOf (l.take i))
  have h3 : (gapsOf (l.take i)).cur.p.length ≤ toA (nfOf (gapsOf (l.take i))) := by
    unfold nfOf gapA; rw [toA_append, toA_append, toA_p]; omega
  have e : atomsOf l = atomsOf (l.take i) ++ atomsOf (l.drop i) := by rw [← atoms_append, List.take_append_drop]
  rw [e, List.length_append]; omega
theorem gaps_next {l : List Stp} {i : Nat} {x : Stp} (h : l.take (i + 1) = l.take i ++ [x]) : gapsOf (l.take (i + 1)) = (gapsOf (l.take i)).step x := by
  rw [h, gapsOf, List.foldl_append]; rfl
end Go.Eng
namespace Go.Proofs.Ytelgegefmjlimaa
open Go Go.Eng
set_option maxRecDepth 100000
set_option maxHeartbeats 4000000
set_option linter.all false
attribute [local irreducible] WL WC WQ QFun QLoop Does Q1 QRound QAssign Go.Addr.add
attribute [local irreducible] sizesF sizesOf putsPad dropsPad bytesPad Gs.put Gs.drops Gs.keeps Gs.byte atOf gapAt
theorem sq_E11_1 {G : Prop} (h : G := by (repeat (first | (refine sp ?_; (repeat intro zzc)) | (refine iF 14 rfl ?_; refine w_callG Try.func14 ?_ (hs := refSizes_any (by assumption) _ _ _ (by repeat (first | assumption | apply RowR.more)))))); exact WQ.q1 rfl) : G := h
theorem st_E11_1 {G G' : Prop} (next : G') (h : Bx G' → G := by intro zzn; (first | ((refine st ?_; (repeat intro zzc)); (try ((first | (refine iF 14 rfl ?_; refine w_callG Try.func14 ?_ (hs := refSizes_any (by assumption) _ _ _ (by repeat (first | assumption | apply RowR.more)))) | ((refine iDraw ?_; (first | refine WC.drawAll rfl (by decide +kernel) ?_ | refine WC.draw 1 rfl (by decide +kernel) ?_ | refine WC.draw 2 rfl (by decide +kernel) ?_ | refine WC.draw 3 rfl (by decide +kernel) ?_ | refine WC.draw 4 rfl (by decide +kernel) ?_ | refine WC.draw 5 rfl (by decide +kernel) ?_ | refine WC.draw 6 rfl (by decide +kernel) ?_ | refine WC.draw 7 rfl (by decide +kernel) ?_ | refine WC.draw 8 rfl (by decide +kernel) ?_ | refine WC.draw 9 rfl (by decide +kernel) ?_ | refine WC.draw 10 rfl (by decide +kernel) ?_ | refine WC.draw 11 rfl (by decide +kernel) ?_ | refine WC.draw 12 rfl (by decide +kernel) ?_ | refine WC.draw 13 rfl (by decide +kernel) ?_ | refine WC.draw 14 rfl (by decide +kernel) ?_ | refine WC.draw 15 rfl (by decide +kernel) ?_ | refine WC.draw 16 rfl (by decide +kernel) ?_ | refine WC.draw 17 rfl (by decide +kernel) ?_ | refine WC.draw 18 rfl (by decide +kernel) ?_ | refine WC.draw 19 rfl (by decide +kernel) ?_ | refine WC.draw 20 rfl (by decide +kernel) ?_ | refine WC.draw 21 rfl (by decide +kernel) ?_ | refine WC.draw 22 rfl (by decide +kernel) ?_ | refine WC.draw 23 rfl (by decide +kernel) ?_ | refine WC.draw 24 rfl (by decide +kernel) ?_)); (repeat (refine WD.cons rfl (fun c h => by cases h) sq_E11_1 ?_)); refine WD.nil ?_)); (try (refine st ?_; (repeat intro zzc)))))) | ((first | (refine iF 14 rfl ?_; refine w_callG Try.func14 ?_ (hs := refSizes_any (by assumption) _ _ _ (by repeat (first | assumption | apply RowR.more)))) | ((refine iDraw ?_; (first | refine WC.drawAll rfl (by decide +kernel) ?_ | refine WC.draw 1 rfl (by decide +kernel) ?_ | refine WC.draw 2 rfl (by decide +kernel) ?_ | refine WC.draw 3 rfl (by decide +kernel) ?_ | refine WC.draw 4 rfl (by decide +kernel) ?_ | refine WC.draw 5 rfl (by decide +kernel) ?_ | refine WC.draw 6 rfl (by decide +kernel) ?_ | refine WC.draw 7 rfl (by decide +kernel) ?_ | refine WC.draw 8 rfl (by decide +kernel) ?_ | refine WC.draw 9 rfl (by decide +kernel) ?_ | refine WC.draw 10 rfl (by decide +kernel) ?_ | refine WC.draw 11 rfl (by decide +kernel) ?_ | refine WC.draw 12 rfl (by decide +kernel) ?_ | refine WC.draw 13 rfl (by decide +kernel) ?_ | refine WC.draw 14 rfl (by decide +kernel) ?_ | refine WC.draw 15 rfl (by decide +kernel) ?_ | refine WC.draw 16 rfl (by decide +kernel) ?_ | refine WC.draw 17 rfl (by decide +kernel) ?_ | refine WC.draw 18 rfl (by decide +kernel) ?_ | refine WC.draw 19 rfl (by decide +kernel) ?_ | refine WC.draw 20 rfl (by decide +kernel) ?_ | refine WC.draw 21 rfl (by decide +kernel) ?_ | refine WC.draw 22 rfl (by decide +kernel) ?_ | refine WC.draw 23 rfl (by decide +kernel) ?_ | refine WC.draw 24 rfl (by decide +kernel) ?_)); (repeat (refine WD.cons rfl (fun c h => by cases h) sq_E11_1 ?_)); refine WD.nil ?_)); (try (refine st ?_; (repeat intro zzc))))); (repeat ((first | (refine iF 14 rfl ?_; refine w_callG Try.func14 ?_ (hs := refSizes_any (by assumption) _ _ _ (by repeat (first | assumption | apply RowR.more)))) | ((refine iDraw ?_; (first | refine WC.drawAll rfl (by decide +kernel) ?_ | refine WC.draw 1 rfl (by decide +kernel) ?_ | refine WC.draw 2 rfl (by decide +kernel) ?_ | refine WC.draw 3 rfl (by decide +kernel) ?_ | refine WC.draw 4 rfl (by decide +kernel) ?_ | refine WC.draw 5 rfl (by decide +kernel) ?_ | refine WC.draw 6 rfl (by decide +kernel) ?_ | refine WC.draw 7 rfl (by decide +kernel) ?_ | refine WC.draw 8 rfl (by decide +kernel) ?_ | refine WC.draw 9 rfl (by decide +kernel) ?_ | refine WC.draw 10 rfl (by decide +kernel) ?_ | refine WC.draw 11 rfl (by decide +kernel) ?_ | refine WC.draw 12 rfl (by decide +kernel) ?_ | refine WC.draw 13 rfl (by decide +kernel) ?_ | refine WC.draw 14 rfl (by decide +kernel) ?_ | refine WC.draw 15 rfl (by decide +kernel) ?_ | refine WC.draw 16 rfl (by decide +kernel) ?_ | refine WC.draw 17 rfl (by decide +kernel) ?_ | refine WC.draw 18 rfl (by decide +kernel) ?_ | refine WC.draw 19 rfl (by decide +kernel) ?_ | refine WC.draw 20 rfl (by decide +kernel) ?_ | refine WC.draw 21 rfl (by decide +kernel) ?_ | refine WC.draw 22 rfl (by decide +kernel) ?_ | refine WC.draw 23 rfl (by decide +kernel) ?_ | refine WC.draw 24 rfl (by decide +kernel) ?_)); (repeat (refine WD.cons rfl (fun c h => by cases h) sq_E11_1 ?_)); refine WD.nil ?_)); (try (refine st ?_; (repeat intro zzc))))); (repeat revert zzc); exact zzn.out) : G := h ⟨next⟩
theorem say_any {a : Option Addr} {cap : Nat} {l : List Stp} {f t : Int} (hf : Fit l) (hs : sizesOf l = some (f, t)) (w0 : World) (m : Mem) (H : SHeap) (hr : RowR w0 m H 3 a (l.map Stp.cs)) :
    Does Try.prog 43 #[.slice a l.length cap] w0 m H (fun v m' H' => m' = m ∧ ∃ q2 q4 q6, v = .agg #[.slice (some ⟨q2, 0, none⟩) (putsOf (gapsOf l)).length (putsOf (gapsOf l)).length, .slice (some ⟨q4, 0, none⟩) (dropsOf (gapsOf l)).length (dropsOf (gapsOf l)).length, .slice (some ⟨q6, 0, none⟩) (bytesOf (gapsOf l)).length (bytesOf (gapsOf l)).length] ∧
      H' = .row (some ⟨q2, 0, none⟩) (putsOf (gapsOf l)).length 9 1 ((putsOf (gapsOf l)).map sV) :: .row (some ⟨q4, 0, none⟩) (dropsOf (gapsOf l)).length 4 1 ((dropsOf (gapsOf l)).map oV) :: .row (some ⟨q6, 0, none⟩) (bytesOf (gapsOf l)).length 5 1 ((bytesOf (gapsOf l)).map uV) :: H) := by
  refine Does.of_body (args := [.slice a l.length cap]) Try.func43 rfl Try.ntmps43 rfl ?_
  have hln : (l.map Stp.cs).length = l.length := by simp
  have hlen := hf.len
  have e2 : szR (sizesOf l) = .tuple #[.int .i64 f, .int .i64 t, .bool true] := by rw [hs]; rfl
  obtain ⟨hok, hal, hpl, hfr, _, g1, g2, _, _⟩ := sized hs
  obtain ⟨N, rfl⟩ : ∃ N : Nat, f = (N : Int) := ⟨f.toNat, by omega⟩
  (refine st_E11_1 ?_; intros; rename_i r0)
  rw [e2]
  (try (refine st_E11_1 ?_; intros))
  refine WC.join (fun r' ds' m' H' => ∃ q2 q4 q6 b, r' = [(6, .pointer (some ⟨b, 0, none⟩)), (2, .pointer (some ⟨r0, 0, none⟩)), (0, .slice a l.length cap)] ∧ ds' = [] ∧ m = m' ∧ H' = .blk b (.cells [.slice (some ⟨q2, 0, none⟩) (N + 1) (N + 1), .slice (some ⟨q4, 0, none⟩) N N, .slice (some ⟨q6, 0, none⟩) N N].toArray 92 (0, 0)) :: .blk r0 (.cells [.slice none 0 0, .slice none 0 0, .slice none 0 0].toArray 92 (0, 0)) :: .row (some ⟨q2, 0, none⟩) (N + 1) 9 1 (List.replicate (N + 1) [str []]) :: .row (some ⟨q4, 0, none⟩) N 4 1 (List.replicate N [.bool false]) :: .row (some ⟨q6, 0, none⟩) N 5 1 (List.replicate N [.int .u8 0]) :: H) ?_ ?_
  · refine WC.drawE 9 ([]) (.blk r0 (.cells [.slice none 0 0, .slice none 0 0, .slice none 0 0].toArray 92 (0, 0)) :: H) rfl (by decide +kernel) (fun w h => Pick.sat (by iterate 60 (try (first | exact Pick.all | (apply Pick.take; (· (repeat (first | exact Out.here | apply Out.there)))) | apply Pick.drop))) h) ?_
    ((try (refine WE.calm 0 (by decide +kernel) rfl rfl (by decide +kernel) rfl (fun c h => by cases h) (by intro zm zF zle; exact sq_E11_1) ?_)); (try (refine WE.calm 1 (by decide +kernel) rfl rfl (by decide +kernel) rfl (fun c h => by cases h) (by intro zm zF zle; exact sq_E11_1) ?_)); (try (refine WE.calm 2 (by decide +kernel) rfl rfl (by decide +kernel) rfl (fun c h => by cases h) (by intro zm zF zle; exact sq_E11_1) ?_)); (try (refine WE.calm 3 (by decide +kernel) rfl rfl (by decide +kernel) rfl (fun c h => by cases h) (by intro zm zF zle; exact sq_E11_1) ?_)); (try (refine WE.calm 4 (by decide +kernel) rfl rfl (by decide +kernel) rfl (fun c h => by cases h) (by intro zm zF zle; exact sq_E11_1) ?_)); (try (refine WE.calm 5 (by decide +kernel) rfl rfl (by decide +kernel) rfl (fun c h => by cases h) (by intro zm zF zle; exact sq_E11_1) ?_)); (try (refine WE.calm 6 (by decide +kernel) rfl rfl (by decide +kernel) rfl (fun c h => by cases h) (by intro zm zF zle; exact sq_E11_1) ?_)); (try (refine WE.calm 7 (by decide +kernel) rfl rfl (by decide +kernel) rfl (fun c h => by cases h) (by intro zm zF zle; exact sq_E11_1) ?_)); (try (refine WE.calm 8 (by decide +kernel) rfl rfl (by decide +kernel) rfl (fun c h => by cases h) (by intro zm zF zle; exact sq_E11_1) ?_)); (try (refine WE.calm 9 (by decide +kernel) rfl rfl (by decide +kernel) rfl (fun c h => by cases h) (by intro zm zF zle; exact sq_E11_1) ?_)); (try (refine WE.calm 10 (by decide +kernel) rfl rfl (by decide +kernel) rfl (fun c h => by cases h) (by intro zm zF zle; exact sq_E11_1) ?_)); (try (refine WE.calm 11 (by decide +kernel) rfl rfl (by decide +kernel) rfl (fun c h => by cases h) (by intro zm zF zle; exact sq_E11_1) ?_)); (try (refine WE.calm 12 (by decide +kernel) rfl rfl (by decide +kernel) rfl (fun c h => by cases h) (by intro zm zF zle; exact sq_E11_1) ?_)); (try (refine WE.calm 13 (by decide +kernel) rfl rfl (by decide +kernel) rfl (fun c h => by cases h) (by intro zm zF zle; exact sq_E11_1) ?_)); (try (refine WE.calm 14 (by decide +kernel) rfl rfl (by decide +kernel) rfl (fun c h => by cases h) (by intro zm zF zle; exact sq_E11_1) ?_)); (try (refine WE.calm 15 (by decide +kernel) rfl rfl (by decide +kernel) rfl (fun c h => by cases h) (by intro zm zF zle; exact sq_E11_1) ?_)); (try (refine WE.calm 16 (by decide +kernel) rfl rfl (by decide +kernel) rfl (fun c h => by cases h) (by intro zm zF zle; exact sq_E11_1) ?_)); (try (refine WE.calm 17 (by decide +kernel) rfl rfl (by decide +kernel) rfl (fun c h => by cases h) (by intro zm zF zle; exact sq_E11_1) ?_)); (try (refine WE.calm 18 (by decide +kernel) rfl rfl (by decide +kernel) rfl (fun c h => by cases h) (by intro zm zF zle; exact sq_E11_1) ?_)); (try (refine WE.calm 19 (by decide +kernel) rfl rfl (by decide +kernel) rfl (fun c h => by cases h) (by intro zm zF zle; exact sq_E11_1) ?_)); (try (refine WE.calm 20 (by decide +kernel) rfl rfl (by decide +kernel) rfl (fun c h => by cases h) (by intro zm zF zle; exact sq_E11_1) ?_)); (try (refine WE.calm 21 (by decide +kernel) rfl rfl (by decide +kernel) rfl (fun c h => by cases h) (by intro zm zF zle; exact sq_E11_1) ?_)); (try (refine WE.calm 22 (by decide +kernel) rfl rfl (by decide +kernel) rfl (fun c h => by cases h) (by intro zm zF zle; exact sq_E11_1) ?_)); (try (refine WE.calm 23 (by decide +kernel) rfl rfl (by decide +kernel) rfl (fun c h => by cases h) (by intro zm zF zle; exact sq_E11_1) ?_)); (try (refine WE.calm 24 (by decide +kernel) rfl rfl (by decide +kernel) rfl (fun c h => by cases h) (by intro zm zF zle; exact sq_E11_1) ?_)); (try (refine WE.calm 25 (by decide +kernel) rfl rfl (by decide +kernel) rfl (fun c h => by cases h) (by intro zm zF zle; exact sq_E11_1) ?_)); (try (refine WE.calm 26 (by decide +kernel) rfl rfl (by decide +kernel) rfl (fun c h => by cases h) (by intro zm zF zle; exact sq_E11_1) ?_)); (try (refine WE.calm 27 (by decide +kernel) rfl rfl (by decide +kernel) rfl (fun c h => by cases h) (by intro zm zF zle; exact sq_E11_1) ?_)); (try (refine WE.calm 28 (by decide +kernel) rfl rfl (by decide +kernel) rfl (fun c h => by cases h) (by intro zm zF zle; exact sq_E11_1) ?_)); (try (refine WE.calm 29 (by decide +kernel) rfl rfl (by decide +kernel) rfl (fun c h => by cases h) (by intro zm zF zle; exact sq_E11_1) ?_)); (try (refine WE.calm 30 (by decide +kernel) rfl rfl (by decide +kernel) rfl (fun c h => by cases h) (by intro zm zF zle; exact sq_E11_1) ?_)); (try (refine WE.calm 31 (by decide +kernel) rfl rfl (by decide +kernel) rfl (fun c h => by cases h) (by intro zm zF zle; exact sq_E11_1) ?_)); (try (refine WE.calm 32 (by decide +kernel) rfl rfl (by decide +kernel) rfl (fun c h => by cases h) (by intro zm zF zle; exact sq_E11_1) ?_)); (try (refine WE.calm 33 (by decide +kernel) rfl rfl (by decide +kernel) rfl (fun c h => by cases h) (by intro zm zF zle; exact sq_E11_1) ?_)); (try (refine WE.calm 34 (by decide +kernel) rfl rfl (by decide +kernel) rfl (fun c h => by cases h) (by intro zm zF zle; exact sq_E11_1) ?_)); (try (refine WE.calm 35 (by decide +kernel) rfl rfl (by decide +kernel) rfl (fun c h => by cases h) (by intro zm zF zle; exact sq_E11_1) ?_)); (try (refine WE.calm 36 (by decide +kernel) rfl rfl (by decide +kernel) rfl (fun c h => by cases h) (by intro zm zF zle; exact sq_E11_1) ?_)); (try (refine WE.calm 37 (by decide +kernel) rfl rfl (by decide +kernel) rfl (fun c h => by cases h) (by intro zm zF zle; exact sq_E11_1) ?_)); (try (refine WE.calm 38 (by decide +kernel) rfl rfl (by decide +kernel) rfl (fun c h => by cases h) (by intro zm zF zle; exact sq_E11_1) ?_)); (try (refine WE.calm 39 (by decide +kernel) rfl rfl (by decide +kernel) rfl (fun c h => by cases h) (by intro zm zF zle; exact sq_E11_1) ?_)); (try (refine WE.calm 40 (by decide +kernel) rfl rfl (by decide +kernel) rfl (fun c h => by cases h) (by intro zm zF zle; exact sq_E11_1) ?_)); (try (refine WE.calm 41 (by decide +kernel) rfl rfl (by decide +kernel) rfl (fun c h => by cases h) (by intro zm zF zle; exact sq_E11_1) ?_)))
    refine WE.acts [2, 4, 6, 8] (by decide +kernel) (all_cons ?_ (all_cons ?_ (all_cons ?_ (all_cons ?_ (all_nil)))))
    · refine Acts.mk rfl rfl (fun c h => by cases h) ?_
      refine WL.makeRow (k:=N + 1) (sz:=1) (by':=16) (zs:=[str []]) rfl rfl (by omega) (by omega) rfl rfl rfl rfl rfl rfl (by decide) (by omega) (by omega) rfl ?_; intro q2; refine WL.nil ?_
      refine WQ.acted (B := [.row (some ⟨q2, 0, none⟩) (N + 1) 9 1 (List.replicate (N + 1) [str []])]) (U := .blk r0 (.cells [.slice none 0 0, .slice none 0 0, .slice none 0 0].toArray 92 (0, 0)) :: H) rfl (Mem.le.refl _) (fun w h => Pick.sat (by iterate 60 (try (first | exact Pick.all | (apply Pick.take; (· (repeat (first | exact Out.here | apply Out.there)))) | apply Pick.drop))) h) ?_
      refine WE.acts [4, 6, 8] (by decide +kernel) (all_cons ?_ (all_cons ?_ (all_cons ?_ (all_nil))))
      · refine Acts.mk rfl rfl (fun c h => by cases h) ?_
        refine WL.makeRow (k:=N) (sz:=1) (by':=1) (zs:=[.bool false]) rfl rfl rfl rfl rfl rfl rfl rfl rfl rfl (by decide) (by omega) (by omega) rfl ?_; intro q4; refine WL.nil ?_
        refine WQ.acted (B := [.row (some ⟨q4, 0, none⟩) N 4 1 (List.replicate N [.bool false])]) (U := .blk r0 (.cells [.slice none 0 0, .slice none 0 0, .slice none 0 0].toArray 92 (0, 0)) :: H) rfl (Mem.le.refl _) (fun w h => Pick.sat (by iterate 60 (try (first | exact Pick.all | (apply Pick.take; (· (repeat (first | exact Out.here | apply Out.there)))) | apply Pick.drop))) h) ?_
        refine WE.acts [6, 8] (by decide +kernel) (all_cons ?_ (all_cons ?_ (all_nil)))
        · refine Acts.mk rfl rfl (fun c h => by cases h) ?_
          refine WL.makeRow (k:=N) (sz:=1) (by':=1) (zs:=[.int .u8 0]) rfl rfl rfl rfl rfl rfl rfl rfl rfl rfl (by decide) (by omega) (by omega) rfl ?_; intro q6; refine WL.nil ?_
          refine WQ.acted (B := [.row (some ⟨q6, 0, none⟩) N 5 1 (List.replicate N [.int .u8 0])]) (U := .blk r0 (.cells [.slice none 0 0, .slice none 0 0, .slice none 0 0].toArray 92 (0, 0)) :: H) rfl (Mem.le.refl _) (fun w h => Pick.sat (by iterate 60 (try (first | exact Pick.all | (apply Pick.take; (· (repeat (first | exact Out.here | apply Out.there)))) | apply Pick.drop))) h) ?_
          (refine WE.calm 7 (by decide +kernel) rfl rfl (by decide +kernel) rfl (fun c h => by cases h) (by intro zm zF zle; exact sq_E11_1) ?_)
          refine WE.acts [8] (by decide +kernel) (all_cons ?_ (all_nil))
          · refine Acts.mk rfl rfl (fun c h => by cases h) ?_
            refine WL.alloc (cs := [.slice none 0 0, .slice none 0 0, .slice none 0 0]) rfl rfl rfl ?_; intro b; refine WL.nil ?_
            refine WQ.acted (B := [.blk b (.cells [.slice none 0 0, .slice none 0 0, .slice none 0 0].toArray 92 (0, 0))]) (U := .blk r0 (.cells [.slice none 0 0, .slice none 0 0, .slice none 0 0].toArray 92 (0, 0)) :: H) rfl (Mem.le.refl _) (fun w h => Pick.sat (by iterate 60 (try (first | exact Pick.all | (apply Pick.take; (· (repeat (first | exact Out.here | apply Out.there)))) | apply Pick.drop))) h) ?_
            refine WE.done (by decide +kernel) ?_
            (try (refine st_E11_1 ?_; intros))
            exact WQ.join ⟨q2, q4, q6, b, rfl, rfl, rfl, rfl⟩ (by (repeat (first | exact Env.Sub.nil | refine Env.Sub.cons rfl ?_))) (fun w h => Pick.sat (by iterate 60 (try (first | exact Pick.all | (apply Pick.take; (· (repeat (first | exact Out.here | apply Out.there)))) | apply Pick.drop))) h)
        · refine Acts.mk rfl rfl (fun c h => by cases h) ?_
          refine WL.alloc (cs := [.slice none 0 0, .slice none 0 0, .slice none 0 0]) rfl rfl rfl ?_; intro b; refine WL.nil ?_
          refine WQ.acted (B := [.blk b (.cells [.slice none 0 0, .slice none 0 0, .slice none 0 0].toArray 92 (0, 0))]) (U := .blk r0 (.cells [.slice none 0 0, .slice none 0 0, .slice none 0 0].toArray 92 (0, 0)) :: H) rfl (Mem.le.refl _) (fun w h => Pick.sat (by iterate 60 (try (first | exact Pick.all | (apply Pick.take; (· (repeat (first | exact Out.here | apply Out.there)))) | apply Pick.drop))) h) ?_
          refine WE.acts [6] (by decide +kernel) (all_cons ?_ (all_nil))
          · refine Acts.mk rfl rfl (fun c h => by cases h) ?_
            refine WL.makeRow (k:=N) (sz:=1) (by':=1) (zs:=[.int .u8 0]) rfl rfl rfl rfl rfl rfl rfl rfl rfl rfl (by decide) (by omega) (by omega) rfl ?_; intro q6; refine WL.nil ?_
            refine WQ.acted (B := [.row (some ⟨q6, 0, none⟩) N 5 1 (List.replicate N [.int .u8 0])]) (U := .blk r0 (.cells [.slice none 0 0, .slice none 0 0, .slice none 0 0].toArray 92 (0, 0)) :: H) rfl (Mem.le.refl _) (fun w h => Pick.sat (by iterate 60 (try (first | exact Pick.all | (apply Pick.take; (· (repeat (first | exact Out.here | apply Out.there)))) | apply Pick.drop))) h) ?_
            (refine WE.calm 7 (by decide +kernel) rfl rfl (by decide +kernel) rfl (fun c h => by cases h) (by intro zm zF zle; exact sq_E11_1) ?_)
            refine WE.done (by decide +kernel) ?_
            (try (refine st_E11_1 ?_; intros))
            exact WQ.join ⟨q2, q4, q6, b, rfl, rfl, rfl, rfl⟩ (by (repeat (first | exact Env.Sub.nil | refine Env.Sub.cons rfl ?_))) (fun w h => Pick.sat (by iterate 60 (try (first | exact Pick.all | (apply Pick.take; (· (repeat (first | exact Out.here | apply Out.there)))) | apply Pick.drop))) h)
      · refine Acts.mk rfl rfl (fun c h => by cases h) ?_
        refine WL.makeRow (k:=N) (sz:=1) (by':=1) (zs:=[.int .u8 0]) rfl rfl rfl rfl rfl rfl rfl rfl rfl rfl (by decide) (by omega) (by omega) rfl ?_; intro q6; refine WL.nil ?_
        refine WQ.acted (B := [.row (some ⟨q6, 0, none⟩) N 5 1 (List.replicate N [.int .u8 0])]) (U := .blk r0 (.cells [.slice none 0 0, .slice none 0 0, .slice none 0 0].toArray 92 (0, 0)) :: H) rfl (Mem.le.refl _) (fun w h => Pick.sat (by iterate 60 (try (first | exact Pick.all | (apply Pick.take; (· (repeat (first | exact Out.here | apply Out.there)))) | apply Pick.drop))) h) ?_
        refine WE.acts [4, 8] (by decide +kernel) (all_cons ?_ (all_cons ?_ (all_nil)))
        · refine Acts.mk rfl rfl (fun c h => by cases h) ?_
          refine WL.makeRow (k:=N) (sz:=1) (by':=1) (zs:=[.bool false]) rfl rfl rfl rfl rfl rfl rfl rfl rfl rfl (by decide) (by omega) (by omega) rfl ?_; intro q4; refine WL.nil ?_
          refine WQ.acted (B := [.row (some ⟨q4, 0, none⟩) N 4 1 (List.replicate N [.bool false])]) (U := .blk r0 (.cells [.slice none 0 0, .slice none 0 0, .slice none 0 0].toArray 92 (0, 0)) :: H) rfl (Mem.le.refl _) (fun w h => Pick.sat (by iterate 60 (try (first | exact Pick.all | (apply Pick.take; (· (repeat (first | exact Out.here | apply Out.there)))) | apply Pick.drop))) h) ?_
          (refine WE.calm 7 (by decide +kernel) rfl rfl (by decide +kernel) rfl (fun c h => by cases h) (by intro zm zF zle; exact sq_E11_1) ?_)
          refine WE.acts [8] (by decide +kernel) (all_cons ?_ (all_nil))
          · refine Acts.mk rfl rfl (fun c h => by cases h) ?_
            refine WL.alloc (cs := [.slice none 0 0, .slice none 0 0, .slice none 0 0]) rfl rfl rfl ?_; intro b; refine WL.nil ?_
            refine WQ.acted (B := [.blk b (.cells [.slice none 0 0, .slice none 0 0, .slice none 0 0].toArray 92 (0, 0))]) (U := .blk r0 (.cells [.slice none 0 0, .slice none 0 0, .slice none 0 0].toArray 92 (0, 0)) :: H) rfl (Mem.le.refl _) (fun w h => Pick.sat (by iterate 60 (try (first | exact Pick.all | (apply Pick.take; (· (repeat (first | exact Out.here | apply Out.there)))) | apply Pick.drop))) h) ?_
            refine WE.done (by decide +kernel) ?_
            (try (refine st_E11_1 ?_; intros))
            exact WQ.join ⟨q2, q4, q6, b, rfl, rfl, rfl, rfl⟩ (by (repeat (first | exact Env.Sub.nil | refine Env.Sub.cons rfl ?_))) (fun w h => Pick.sat (by iterate 60 (try (first | exact Pick.all | (apply Pick.take; (· (repeat (first | exact Out.here | apply Out.there)))) | apply Pick.drop))) h)
        · refine Acts.mk rfl rfl (fun c h => by cases h) ?_
          refine WL.alloc (cs := [.slice none 0 0, .slice none 0 0, .slice none 0 0]) rfl rfl rfl ?_; intro b; refine WL.nil ?_
          refine WQ.acted (B := [.blk b (.cells [.slice none 0 0, .slice none 0 0, .slice none 0 0].toArray 92 (0, 0))]) (U := .blk r0 (.cells [.slice none 0 0, .slice none 0 0, .slice none 0 0].toArray 92 (0, 0)) :: H) rfl (Mem.le.refl _) (fun w h => Pick.sat (by iterate 60 (try (first | exact Pick.all | (apply Pick.take; (· (repeat (first | exact Out.here | apply Out.there)))) | apply Pick.drop))) h) ?_
          refine WE.acts [4] (by decide +kernel) (all_cons ?_ (all_nil))
          · refine Acts.mk rfl rfl (fun c h => by cases h) ?_
            refine WL.makeRow (k:=N) (sz:=1) (by':=1) (zs:=[.bool false]) rfl rfl rfl rfl rfl rfl rfl rfl rfl rfl (by decide) (by omega) (by omega) rfl ?_; intro q4; refine WL.nil ?_
            refine WQ.acted (B := [.row (some ⟨q4, 0, none⟩) N 4 1 (List.replicate N [.bool false])]) (U := .blk r0 (.cells [.slice none 0 0, .slice none 0 0, .slice none 0 0].toArray 92 (0, 0)) :: H) rfl (Mem.le.refl _) (fun w h => Pick.sat (by iterate 60 (try (first | exact Pick.all | (apply Pick.take; (· (repeat (first | exact Out.here | apply Out.there)))) | apply Pick.drop))) h) ?_
            (refine WE.calm 7 (by decide +kernel) rfl rfl (by decide +kernel) rfl (fun c h => by cases h) (by intro zm zF zle; exact sq_E11_1) ?_)
            refine WE.done (by decide +kernel) ?_
            (try (refine st_E11_1 ?_; intros))
            exact WQ.join ⟨q2, q4, q6, b, rfl, rfl, rfl, rfl⟩ (by (repeat (first | exact Env.Sub.nil | refine Env.Sub.cons rfl ?_))) (fun w h => Pick.sat (by iterate 60 (try (first | exact Pick.all | (apply Pick.take; (· (repeat (first | exact Out.here | apply Out.there)))) | apply Pick.drop))) h)
      · refine Acts.mk rfl rfl (fun c h => by cases h) ?_
        refine WL.alloc (cs := [.slice none 0 0, .slice none 0 0, .slice none 0 0]) rfl rfl rfl ?_; intro b; refine WL.nil ?_
        refine WQ.acted (B := [.blk b (.cells [.slice none 0 0, .slice none 0 0, .slice none 0 0].toArray 92 (0, 0))]) (U := .blk r0 (.cells [.slice none 0 0, .slice none 0 0, .slice none 0 0].toArray 92 (0, 0)) :: H) rfl (Mem.le.refl _) (fun w h => Pick.sat (by iterate 60 (try (first | exact Pick.all | (apply Pick.take; (· (repeat (first | exact Out.here | apply Out.there)))) | apply Pick.drop))) h) ?_
        refine WE.acts [4, 6] (by decide +kernel) (all_cons ?_ (all_cons ?_ (all_nil)))
        · refine Acts.mk rfl rfl (fun c h => by cases h) ?_
          refine WL.makeRow (k:=N) (sz:=1) (by':=1) (zs:=[.bool false]) rfl rfl rfl rfl rfl rfl rfl rfl rfl rfl (by decide) (by omega) (by omega) rfl ?_; intro q4; refine WL.nil ?_
          refine WQ.acted (B := [.row (some ⟨q4, 0, none⟩) N 4 1 (List.replicate N [.bool false])]) (U := .blk r0 (.cells [.slice none 0 0, .slice none 0 0, .slice none 0 0].toArray 92 (0, 0)) :: H) rfl (Mem.le.refl _) (fun w h => Pick.sat (by iterate 60 (try (first | exact Pick.all | (apply Pick.take; (· (repeat (first | exact Out.here | apply Out.there)))) | apply Pick.drop))) h) ?_
          refine WE.acts [6] (by decide +kernel) (all_cons ?_ (all_nil))
          · refine Acts.mk rfl rfl (fun c h => by cases h) ?_
            refine WL.makeRow (k:=N) (sz:=1) (by':=1) (zs:=[.int .u8 0]) rfl rfl rfl rfl rfl rfl rfl rfl rfl rfl (by decide) (by omega) (by omega) rfl ?_; intro q6; refine WL.nil ?_
            refine WQ.acted (B := [.row (some ⟨q6, 0, none⟩) N 5 1 (List.replicate N [.int .u8 0])]) (U := .blk r0 (.cells [.slice none 0 0, .slice none 0 0, .slice none 0 0].toArray 92 (0, 0)) :: H) rfl (Mem.le.refl _) (fun w h => Pick.sat (by iterate 60 (try (first | exact Pick.all | (apply Pick.take; (· (repeat (first | exact Out.here | apply Out.there)))) | apply Pick.drop))) h) ?_
            (refine WE.calm 7 (by decide +kernel) rfl rfl (by decide +kernel) rfl (fun c h => by cases h) (by intro zm zF zle; exact sq_E11_1) ?_)
            refine WE.done (by decide +kernel) ?_
            (try (refine st_E11_1 ?_; intros))
            exact WQ.join ⟨q2, q4, q6, b, rfl, rfl, rfl, rfl⟩ (by (repeat (first | exact Env.Sub.nil | refine Env.Sub.cons rfl ?_))) (fun w h => Pick.sat (by iterate 60 (try (first | exact Pick.all | (apply Pick.take; (· (repeat (first | exact Out.here | apply Out.there)))) | apply Pick.drop))) h)
        · refine Acts.mk rfl rfl (fun c h => by cases h) ?_
          refine WL.makeRow (k:=N) (sz:=1) (by':=1) (zs:=[.int .u8 0]) rfl rfl rfl rfl rfl rfl rfl rfl rfl rfl (by decide) (by omega) (by omega) rfl ?_; intro q6; refine WL.nil ?_
          refine WQ.acted (B := [.row (some ⟨q6, 0, none⟩) N 5 1 (List.replicate N [.int .u8 0])]) (U := .blk r0 (.cells [.slice none 0 0, .slice none 0 0, .slice none 0 0].toArray 92 (0, 0)) :: H) rfl (Mem.le.refl _) (fun w h => Pick.sat (by iterate 60 (try (first | exact Pick.all | (apply Pick.take; (· (repeat (first | exact Out.here | apply Out.there)))) | apply Pick.drop))) h) ?_
          refine WE.acts [4] (by decide +kernel) (all_cons ?_ (all_nil))
          · refine Acts.mk rfl rfl (fun c h => by cases h) ?_
            refine WL.makeRow (k:=N) (sz:=1) (by':=1) (zs:=[.bool false]) rfl rfl rfl rfl rfl rfl rfl rfl rfl rfl (by decide) (by omega) (by omega) rfl ?_; intro q4; refine WL.nil ?_
            refine WQ.acted (B := [.row (some ⟨q4, 0, none⟩) N 4 1 (List.replicate N [.bool false])]) (U := .blk r0 (.cells [.slice none 0 0, .slice none 0 0, .slice none 0 0].toArray 92 (0, 0)) :: H) rfl (Mem.le.refl _) (fun w h => Pick.sat (by iterate 60 (try (first | exact Pick.all | (apply Pick.take; (· (repeat (first | exact Out.here | apply Out.there)))) | apply Pick.drop))) h) ?_
            (refine WE.calm 7 (by decide +kernel) rfl rfl (by decide +kernel) rfl (fun c h => by cases h) (by intro zm zF zle; exact sq_E11_1) ?_)
            refine WE.done (by decide +kernel) ?_
            (try (refine st_E11_1 ?_; intros))
            exact WQ.join ⟨q2, q4, q6, b, rfl, rfl, rfl, rfl⟩ (by (repeat (first | exact Env.Sub.nil | refine Env.Sub.cons rfl ?_))) (fun w h => Pick.sat (by iterate 60 (try (first | exact Pick.all | (apply Pick.take; (· (repeat (first | exact Out.here | apply Out.there)))) | apply Pick.drop))) h)
    · refine Acts.mk rfl rfl (fun c h => by cases h) ?_
      refine WL.makeRow (k:=N) (sz:=1) (by':=1) (zs:=[.bool false]) rfl rfl rfl rfl rfl rfl rfl rfl rfl rfl (by decide) (by omega) (by omega) rfl ?_; intro q4; refine WL.nil ?_
      refine WQ.acted (B := [.row (some ⟨q4, 0, none⟩) N 4 1 (List.replicate N [.bool false])]) (U := .blk r0 (.cells [.slice none 0 0, .slice none 0 0, .slice none 0 0].toArray 92 (0, 0)) :: H) rfl (Mem.le.refl _) (fun w h => Pick.sat (by iterate 60 (try (first | exact Pick.all | (apply Pick.take; (· (repeat (first | exact Out.here | apply Out.there)))) | apply Pick.drop))) h) ?_
      refine WE.acts [2, 6, 8] (by decide +kernel) (all_cons ?_ (all_cons ?_ (all_cons ?_ (all_nil))))
      · refine Acts.mk rfl rfl (fun c h => by cases h) ?_
        refine WL.makeRow (k:=N + 1) (sz:=1) (by':=16) (zs:=[str []]) rfl rfl (by omega) (by omega) rfl rfl rfl rfl rfl rfl (by decide) (by omega) (by omega) rfl ?_; intro q2; refine WL.nil ?_
        refine WQ.acted (B := [.row (some ⟨q2, 0, none⟩) (N + 1) 9 1 (List.replicate (N + 1) [str []])]) (U := .blk r0 (.cells [.slice none 0 0, .slice none 0 0, .slice none 0 0].toArray 92 (0, 0)) :: H) rfl (Mem.le.refl _) (fun w h => Pick.sat (by iterate 60 (try (first | exact Pick.all | (apply Pick.take; (· (repeat (first | exact Out.here | apply Out.there)))) | apply Pick.drop))) h) ?_
        refine WE.acts [6, 8] (by decide +kernel) (all_cons ?_ (all_cons ?_ (all_nil)))
        · refine Acts.mk rfl rfl (fun c h => by cases h) ?_
          refine WL.makeRow (k:=N) (sz:=1) (by':=1) (zs:=[.int .u8 0]) rfl rfl rfl rfl rfl rfl rfl rfl rfl rfl (by decide) (by omega) (by omega) rfl ?_; intro q6; refine WL.nil ?_
          refine WQ.acted (B := [.row (some ⟨q6, 0, none⟩) N 5 1 (List.replicate N [.int .u8 0])]) (U := .blk r0 (.cells [.slice none 0 0, .slice none 0 0, .slice none 0 0].toArray 92 (0, 0)) :: H) rfl (Mem.le.refl _) (fun w h => Pick.sat (by iterate 60 (try (first | exact Pick.all | (apply Pick.take; (· (repeat (first | exact Out.here | apply Out.there)))) | apply Pick.drop))) h) ?_
          (refine WE.calm 7 (by decide +kernel) rfl rfl (by decide +kernel) rfl (fun c h => by cases h) (by intro zm zF zle; exact sq_E11_1) ?_)
          refine WE.acts [8] (by decide +kernel) (all_cons ?_ (all_nil))
          · refine Acts.mk rfl rfl (fun c h => by cases h) ?_
            refine WL.alloc (cs := [.slice none 0 0, .slice none 0 0, .slice none 0 0]) rfl rfl rfl ?_; intro b; refine WL.nil ?_
            refine WQ.acted (B := [.blk b (.cells [.slice none 0 0, .slice none 0 0, .slice none 0 0].toArray 92 (0, 0))]) (U := .blk r0 (.cells [.slice none 0 0, .slice none 0 0, .slice none 0 0].toArray 92 (0, 0)) :: H) rfl (Mem.le.refl _) (fun w h => Pick.sat (by iterate 60 (try (first | exact Pick.all | (apply Pick.take; (· (repeat (first | exact Out.here | apply Out.there)))) | apply Pick.drop))) h) ?_
            refine WE.done (by decide +kernel) ?_
            (try (refine st_E11_1 ?_; intros))
            exact WQ.join ⟨q2, q4, q6, b, rfl, rfl, rfl, rfl⟩ (by (repeat (first | exact Env.Sub.nil | refine Env.Sub.cons rfl ?_))) (fun w h => Pick.sat (by iterate 60 (try (first | exact Pick.all | (apply Pick.take; (· (repeat (first | exact Out.here | apply Out.there)))) | apply Pick.drop))) h)
        · refine Acts.mk rfl rfl (fun c h => by cases h) ?_
          refine WL.alloc (cs := [.slice none 0 0, .slice none 0 0, .slice none 0 0]) rfl rfl rfl ?_; intro b; refine WL.nil ?_
          refine WQ.acted (B := [.blk b (.cells [.slice none 0 0, .slice none 0 0, .slice none 0 0].toArray 92 (0, 0))]) (U := .blk r0 (.cells [.slice none 0 0, .slice none 0 0, .slice none 0 0].toArray 92 (0, 0)) :: H) rfl (Mem.le.refl _) (fun w h => Pick.sat (by iterate 60 (try (first | exact Pick.all | (apply Pick.take; (· (repeat (first | exact Out.here | apply Out.there)))) | apply Pick.drop))) h) ?_
          refine WE.acts [6] (by decide +kernel) (all_cons ?_ (all_nil))
          · refine Acts.mk rfl rfl (fun c h => by cases h) ?_
            refine WL.makeRow (k:=N) (sz:=1) (by':=1) (zs:=[.int .u8 0]) rfl rfl rfl rfl rfl rfl rfl rfl rfl rfl (by decide) (by omega) (by omega) rfl ?_; intro q6; refine WL.nil ?_
            refine WQ.acted (B := [.row (some ⟨q6, 0, none⟩) N 5 1 (List.replicate N [.int .u8 0])]) (U := .blk r0 (.cells [.slice none 0 0, .slice none 0 0, .slice none 0 0].toArray 92 (0, 0)) :: H) rfl (Mem.le.refl _) (fun w h => Pick.sat (by iterate 60 (try (first | exact Pick.all | (apply Pick.take; (· (repeat (first | exact Out.here | apply Out.there)))) | apply Pick.drop))) h) ?_
            (refine WE.calm 7 (by decide +kernel) rfl rfl (by decide +kernel) rfl (fun c h => by cases h) (by intro zm zF zle; exact sq_E11_1) ?_)
            refine WE.done (by decide +kernel) ?_
            (try (refine st_E11_1 ?_; intros))
            exact WQ.join ⟨q2, q4, q6, b, rfl, rfl, rfl, rfl⟩ (by (repeat (first | exact Env.Sub.nil | refine Env.Sub.cons rfl ?_))) (fun w h => Pick.sat (by iterate 60 (try (first | exact Pick.all | (apply Pick.take; (· (repeat (first | exact Out.here | apply Out.there)))) | apply Pick.drop))) h)
      · refine Acts.mk rfl rfl (fun c h => by cases h) ?_
        refine WL.makeRow (k:=N) (sz:=1) (by':=1) (zs:=[.int .u8 0]) rfl rfl rfl rfl rfl rfl rfl rfl rfl rfl (by decide) (by omega) (by omega) rfl ?_; intro q6; refine WL.nil ?_
        refine WQ.acted (B := [.row (some ⟨q6, 0, none⟩) N 5 1 (List.replicate N [.int .u8 0])]) (U := .blk r0 (.cells [.slice none 0 0, .slice none 0 0, .slice none 0 0].toArray 92 (0, 0)) :: H) rfl (Mem.le.refl _) (fun w h => Pick.sat (by iterate 60 (try (first | exact Pick.all | (apply Pick.take; (· (repeat (first | exact Out.here | apply Out.there)))) | apply Pick.drop))) h) ?_
        refine WE.acts [2, 8] (by decide +kernel) (all_cons ?_ (all_cons ?_ (all_nil)))
        · refine Acts.mk rfl rfl (fun c h => by cases h) ?_
          refine WL.makeRow (k:=N + 1) (sz:=1) (by':=16) (zs:=[str []]) rfl rfl (by omega) (by omega) rfl rfl rfl rfl rfl rfl (by decide) (by omega) (by omega) rfl ?_; intro q2; refine WL.nil ?_
          refine WQ.acted (B := [.row (some ⟨q2, 0, none⟩) (N + 1) 9 1 (List.replicate (N + 1) [str []])]) (U := .blk r0 (.cells [.slice none 0 0, .slice none 0 0, .slice none 0 0].toArray 92 (0, 0)) :: H) rfl (Mem.le.refl _) (fun w h => Pick.sat (by iterate 60 (try (first | exact Pick.all | (apply Pick.take; (· (repeat (first | exact Out.here | apply Out.there)))) | apply Pick.drop))) h) ?_
          (refine WE.calm 7 (by decide +kernel) rfl rfl (by decide +kernel) rfl (fun c h => by cases h) (by intro zm zF zle; exact sq_E11_1) ?_)
          refine WE.acts [8] (by decide +kernel) (all_cons ?_ (all_nil))
          · refine Acts.mk rfl rfl (fun c h => by cases h) ?_
            refine WL.alloc (cs := [.slice none 0 0, .slice none 0 0, .slice none 0 0]) rfl rfl rfl ?_; intro b; refine WL.nil ?_
            refine WQ.acted (B := [.blk b (.cells [.slice none 0 0, .slice none 0 0, .slice none 0 0].toArray 92 (0, 0))]) (U := .blk r0 (.cells [.slice none 0 0, .slice none 0 0, .slice none 0 0].toArray 92 (0, 0)) :: H) rfl (Mem.le.refl _) (fun w h => Pick.sat (by iterate 60 (try (first | exact Pick.all | (apply Pick.take; (· (repeat (first | exact Out.here | apply Out.there)))) | apply Pick.drop))) h) ?_
            refine WE.done (by decide +kernel) ?_
            (try (refine st_E11_1 ?_; intros))
            exact WQ.join ⟨q2, q4, q6, b, rfl, rfl, rfl, rfl⟩ (by (repeat (first | exact Env.Sub.nil | refine Env.Sub.cons rfl ?_))) (fun w h => Pick.sat (by iterate 60 (try (first | exact Pick.all | (apply Pick.take; (· (repeat (first | exact Out.here | apply Out.there)))) | apply Pick.drop))) h)
        · refine Acts.mk rfl rfl (fun c h => by cases h) ?_
          refine WL.alloc (cs := [.slice none 0 0, .slice none 0 0, .slice none 0 0]) rfl rfl rfl ?_; intro b; refine WL.nil ?_
          refine WQ.acted (B := [.blk b (.cells [.slice none 0 0, .slice none 0 0, .slice none 0 0].toArray 92 (0, 0))]) (U := .blk r0 (.cells [.slice none 0 0, .slice none 0 0, .slice none 0 0].toArray 92 (0, 0)) :: H) rfl (Mem.le.refl _) (fun w h => Pick.sat (by iterate 60 (try (first | exact Pick.all | (apply Pick.take; (· (repeat (first | exact Out.here | apply Out.there)))) | apply Pick.drop))) h) ?_
          refine WE.acts [2] (by decide +kernel) (all_cons ?_ (all_nil))
          · refine Acts.mk rfl rfl (fun c h => by cases h) ?_
            refine WL.makeRow (k:=N + 1) (sz:=1) (by':=16) (zs:=[str []]) rfl rfl (by omega) (by omega) rfl rfl rfl rfl rfl rfl (by decide) (by omega) (by omega) rfl ?_; intro q2; refine WL.nil ?_
            refine WQ.acted (B := [.row (some ⟨q2, 0, none⟩) (N + 1) 9 1 (List.replicate (N + 1) [str []])]) (U := .blk r0 (.cells [.slice none 0 0, .slice none 0 0, .slice none 0 0].toArray 92 (0, 0)) :: H) rfl (Mem.le.refl _) (fun w h => Pick.sat (by iterate 60 (try (first | exact Pick.all | (apply Pick.take; (· (repeat (first | exact Out.here | apply Out.there)))) | apply Pick.drop))) h) ?_
            (refine WE.calm 7 (by decide +kernel) rfl rfl (by decide +kernel) rfl (fun c h => by cases h) (by intro zm zF zle; exact sq_E11_1) ?_)
            refine WE.done (by decide +kernel) ?_
            (try (refine st_E11_1 ?_; intros))
            exact WQ.join ⟨q2, q4, q6, b, rfl, rfl, rfl, rfl⟩ (by (repeat (first | exact Env.Sub.nil | refine Env.Sub.cons rfl ?_))) (fun w h => Pick.sat (by iterate 60 (try (first | exact Pick.all | (apply Pick.take; (· (repeat (first | exact Out.here | apply Out.there)))) | apply Pick.drop))) h)
      · refine Acts.mk rfl rfl (fun c h => by cases h) ?_
        refine WL.alloc (cs := [.slice none 0 0, .slice none 0 0, .slice none 0 0]) rfl rfl rfl ?_; intro b; refine WL.nil ?_
        refine WQ.acted (B := [.blk b (.cells [.slice none 0 0, .slice none 0 0, .slice none 0 0].toArray 92 (0, 0))]) (U := .blk r0 (.cells [.slice none 0 0, .slice none 0 0, .slice none 0 0].toArray 92 (0, 0)) :: H) rfl (Mem.le.refl _) (fun w h => Pick.sat (by iterate 60 (try (first | exact Pick.all | (apply Pick.take; (· (repeat (first | exact Out.here | apply Out.there)))) | apply Pick.drop))) h) ?_
        refine WE.acts [2, 6] (by decide +kernel) (all_cons ?_ (all_cons ?_ (all_nil)))
        · refine Acts.mk rfl rfl (fun c h => by cases h) ?_
          refine WL.makeRow (k:=N + 1) (sz:=1) (by':=16) (zs:=[str []]) rfl rfl (by omega) (by omega) rfl rfl rfl rfl rfl rfl (by decide) (by omega) (by omega) rfl ?_; intro q2; refine WL.nil ?_
          refine WQ.acted (B := [.row (some ⟨q2, 0, none⟩) (N + 1) 9 1 (List.replicate (N + 1) [str []])]) (U := .blk r0 (.cells [.slice none 0 0, .slice none 0 0, .slice none 0 0].toArray 92 (0, 0)) :: H) rfl (Mem.le.refl _) (fun w h => Pick.sat (by iterate 60 (try (first | exact Pick.all | (apply Pick.take; (· (repeat (first | exact Out.here | apply Out.there)))) | apply Pick.drop))) h) ?_
          refine WE.acts [6] (by decide +kernel) (all_cons ?_ (all_nil))
          · refine Acts.mk rfl rfl (fun c h => by cases h) ?_
            refine WL.makeRow (k:=N) (sz:=1) (by':=1) (zs:=[.int .u8 0]) rfl rfl rfl rfl rfl rfl rfl rfl rfl rfl (by decide) (by omega) (by omega) rfl ?_; intro q6; refine WL.nil ?_
            refine WQ.acted (B := [.row (some ⟨q6, 0, none⟩) N 5 1 (List.replicate N [.int .u8 0])]) (U := .blk r0 (.cells [.slice none 0 0, .slice none 0 0, .slice none 0 0].toArray 92 (0, 0)) :: H) rfl (Mem.le.refl _) (fun w h => Pick.sat (by iterate 60 (try (first | exact Pick.all | (apply Pick.take; (· (repeat (first | exact Out.here | apply Out.there)))) | apply Pick.drop))) h) ?_
            (refine WE.calm 7 (by decide +kernel) rfl rfl (by decide +kernel) rfl (fun c h => by cases h) (by intro zm zF zle; exact sq_E11_1) ?_)
            refine WE.done (by decide +kernel) ?_
            (try (refine st_E11_1 ?_; intros))
            exact WQ.join ⟨q2, q4, q6, b, rfl, rfl, rfl, rfl⟩ (by (repeat (first | exact Env.Sub.nil | refine Env.Sub.cons rfl ?_))) (fun w h => Pick.sat (by iterate 60 (try (first | exact Pick.all | (apply Pick.take; (· (repeat (first | exact Out.here | apply Out.there)))) | apply Pick.drop))) h)
        · refine Acts.mk rfl rfl (fun c h => by cases h) ?_
          refine WL.makeRow (k:=N) (sz:=1) (by':=1) (zs:=[.int .u8 0]) rfl rfl rfl rfl rfl rfl rfl rfl rfl rfl (by decide) (by omega) (by omega) rfl ?_; intro q6; refine WL.nil ?_
          refine WQ.acted (B := [.row (some ⟨q6, 0, none⟩) N 5 1 (List.replicate N [.int .u8 0])]) (U := .blk r0 (.cells [.slice none 0 0, .slice none 0 0, .slice none 0 0].toArray 92 (0, 0)) :: H) rfl (Mem.le.refl _) (fun w h => Pick.sat (by iterate 60 (try (first | exact Pick.all | (apply Pick.take; (· (repeat (first | exact Out.here | apply Out.there)))) | apply Pick.drop))) h) ?_
          refine WE.acts [2] (by decide +kernel) (all_cons ?_ (all_nil))
          · refine Acts.mk rfl rfl (fun c h => by cases h) ?_
            refine WL.makeRow (k:=N + 1) (sz:=1) (by':=16) (zs:=[str []]) rfl rfl (by omega) (by omega) rfl rfl rfl rfl rfl rfl (by decide) (by omega) (by omega) rfl ?_; intro q2; refine WL.nil ?_
            refine WQ.acted (B := [.row (some ⟨q2, 0, none⟩) (N + 1) 9 1 (List.replicate (N + 1) [str []])]) (U := .blk r0 (.cells [.slice none 0 0, .slice none 0 0, .slice none 0 0].toArray 92 (0, 0)) :: H) rfl (Mem.le.refl _) (fun w h => Pick.sat (by iterate 60 (try (first | exact Pick.all | (apply Pick.take; (· (repeat (first | exact Out.here | apply Out.there)))) | apply Pick.drop))) h) ?_
            (refine WE.calm 7 (by decide +kernel) rfl rfl (by decide +kernel) rfl (fun c h => by cases h) (by intro zm zF zle; exact sq_E11_1) ?_)
            refine WE.done (by decide +kernel) ?_
            (try (refine st_E11_1 ?_; intros))
            exact WQ.join ⟨q2, q4, q6, b, rfl, rfl, rfl, rfl⟩ (by (repeat (first | exact Env.Sub.nil | refine Env.Sub.cons rfl ?_))) (fun w h => Pick.sat (by iterate 60 (try (first | exact Pick.all | (apply Pick.take; (· (repeat (first | exact Out.here | apply Out.there)))) | apply Pick.drop))) h)
    · refine Acts.mk rfl rfl (fun c h => by cases h) ?_
      refine WL.makeRow (k:=N) (sz:=1) (by':=1) (zs:=[.int .u8 0]) rfl rfl rfl rfl rfl rfl rfl rfl rfl rfl (by decide) (by omega) (by omega) rfl ?_; intro q6; refine WL.nil ?_
      refine WQ.acted (B := [.row (some ⟨q6, 0, none⟩) N 5 1 (List.replicate N [.int .u8 0])]) (U := .blk r0 (.cells [.slice none 0 0, .slice none 0 0, .slice none 0 0].toArray 92 (0, 0)) :: H) rfl (Mem.le.refl _) (fun w h => Pick.sat (by iterate 60 (try (first | exact Pick.all | (apply Pick.take; (· (repeat (first | exact Out.here | apply Out.there)))) | apply Pick.drop))) h) ?_
      refine WE.acts [2, 4, 8] (by decide +kernel) (all_cons ?_ (all_cons ?_ (all_cons ?_ (all_nil))))
      · refine Acts.mk rfl rfl (fun c h => by cases h) ?_
        refine WL.makeRow (k:=N + 1) (sz:=1) (by':=16) (zs:=[str []]) rfl rfl (by omega) (by omega) rfl rfl rfl rfl rfl rfl (by decide) (by omega) (by omega) rfl ?_; intro q2; refine WL.nil ?_
        refine WQ.acted (B := [.row (some ⟨q2, 0, none⟩) (N + 1) 9 1 (List.replicate (N + 1) [str []])]) (U := .blk r0 (.cells [.slice none 0 0, .slice none 0 0, .slice none 0 0].toArray 92 (0, 0)) :: H) rfl (Mem.le.refl _) (fun w h => Pick.sat (by iterate 60 (try (first | exact Pick.all | (apply Pick.take; (· (repeat (first | exact Out.here | apply Out.there)))) | apply Pick.drop))) h) ?_
        refine WE.acts [4, 8] (by decide +kernel) (all_cons ?_ (all_cons ?_ (all_nil)))
        · refine Acts.mk rfl rfl (fun c h => by cases h) ?_
          refine WL.makeRow (k:=N) (sz:=1) (by':=1) (zs:=[.bool false]) rfl rfl rfl rfl rfl rfl rfl rfl rfl rfl (by decide) (by omega) (by omega) rfl ?_; intro q4; refine WL.nil ?_
          refine WQ.acted (B := [.row (some ⟨q4, 0, none⟩) N 4 1 (List.replicate N [.bool false])]) (U := .blk r0 (.cells [.slice none 0 0, .slice none 0 0, .slice none 0 0].toArray 92 (0, 0)) :: H) rfl (Mem.le.refl _) (fun w h => Pick.sat (by iterate 60 (try (first | exact Pick.all | (apply Pick.take; (· (repeat (first | exact Out.here | apply Out.there)))) | apply Pick.drop))) h) ?_
          (refine WE.calm 7 (by decide +kernel) rfl rfl (by decide +kernel) rfl (fun c h => by cases h) (by intro zm zF zle; exact sq_E11_1) ?_)
          refine WE.acts [8] (by decide +kernel) (all_cons ?_ (all_nil))
          · refine Acts.mk rfl rfl (fun c h => by cases h) ?_
            refine WL.alloc (cs := [.slice none 0 0, .slice none 0 0, .slice none 0 0]) rfl rfl rfl ?_; intro b; refine WL.nil ?_
            refine WQ.acted (B := [.blk b (.cells [.slice none 0 0, .slice none 0 0, .slice none 0 0].toArray 92 (0, 0))]) (U := .blk r0 (.cells [.slice none 0 0, .slice none 0 0, .slice none 0 0].toArray 92 (0, 0)) :: H) rfl (Mem.le.refl _) (fun w h => Pick.sat (by iterate 60 (try (first | exact Pick.all | (apply Pick.take; (· (repeat (first | exact Out.here | apply Out.there)))) | apply Pick.drop))) h) ?_
            refine WE.done (by decide +kernel) ?_
            (try (refine st_E11_1 ?_; intros))
            exact WQ.join ⟨q2, q4, q6, b, rfl, rfl, rfl, rfl⟩ (by (repeat (first | exact Env.Sub.nil | refine Env.Sub.cons rfl ?_))) (fun w h => Pick.sat (by iterate 60 (try (first | exact Pick.all | (apply Pick.take; (· (repeat (first | exact Out.here | apply Out.there)))) | apply Pick.drop))) h)
        · refine Acts.mk rfl rfl (fun c h => by cases h) ?_
          refine WL.alloc (cs := [.slice none 0 0, .slice none 0 0, .slice none 0 0]) rfl rfl rfl ?_; intro b; refine WL.nil ?_
          refine WQ.acted (B := [.blk b (.cells [.slice none 0 0, .slice none 0 0, .slice none 0 0].toArray 92 (0, 0))]) (U := .blk r0 (.cells [.slice none 0 0, .slice none 0 0, .slice none 0 0].toArray 92 (0, 0)) :: H) rfl (Mem.le.refl _) (fun w h => Pick.sat (by iterate 60 (try (first | exact Pick.all | (apply Pick.take; (· (repeat (first | exact Out.here | apply Out.there)))) | apply Pick.drop))) h) ?_
          refine WE.acts [4] (by decide +kernel) (all_cons ?_ (all_nil))
          · refine Acts.mk rfl rfl (fun c h => by cases h) ?_
            refine WL.makeRow (k:=N) (sz:=1) (by':=1) (zs:=[.bool false]) rfl rfl rfl rfl rfl rfl rfl rfl rfl rfl (by decide) (by omega) (by omega) rfl ?_; intro q4; refine WL.nil ?_
            refine WQ.acted (B := [.row (some ⟨q4, 0, none⟩) N 4 1 (List.replicate N [.bool false])]) (U := .blk r0 (.cells [.slice none 0 0, .slice none 0 0, .slice none 0 0].toArray 92 (0, 0)) :: H) rfl (Mem.le.refl _) (fun w h => Pick.sat (by iterate 60 (try (first | exact Pick.all | (apply Pick.take; (· (repeat (first | exact Out.here | apply Out.there)))) | apply Pick.drop))) h) ?_
            (refine WE.calm 7 (by decide +kernel) rfl rfl (by decide +kernel) rfl (fun c h => by cases h) (by intro zm zF zle; exact sq_E11_1) ?_)
            refine WE.done (by decide +kernel) ?_
            (try (refine st_E11_1 ?_; intros))
            exact WQ.join ⟨q2, q4, q6, b, rfl, rfl, rfl, rfl⟩ (by (repeat (first | exact Env.Sub.nil | refine Env.Sub.cons rfl ?_))) (fun w h => Pick.sat (by iterate 60 (try (first | exact Pick.all | (apply Pick.take; (· (repeat (first | exact Out.here | apply Out.there)))) | apply Pick.drop))) h)
      · refine Acts.mk rfl rfl (fun c h => by cases h) ?_
        refine WL.makeRow (k:=N) (sz:=1) (by':=1) (zs:=[.bool false]) rfl rfl rfl rfl rfl rfl rfl rfl rfl rfl (by decide) (by omega) (by omega) rfl ?_; intro q4; refine WL.nil ?_
        refine WQ.acted (B := [.row (some ⟨q4, 0, none⟩) N 4 1 (List.replicate N [.bool false])]) (U := .blk r0 (.cells [.slice none 0 0, .slice none 0 0, .slice none 0 0].toArray 92 (0, 0)) :: H) rfl (Mem.le.refl _) (fun w h => Pick.sat (by iterate 60 (try (first | exact Pick.all | (apply Pick.take; (· (repeat (first | exact Out.here | apply Out.there)))) | apply Pick.drop))) h) ?_
        refine WE.acts [2, 8] (by decide +kernel) (all_cons ?_ (all_cons ?_ (all_nil)))
        · refine Acts.mk rfl rfl (fun c h => by cases h) ?_
          refine WL.makeRow (k:=N + 1) (sz:=1) (by':=16) (zs:=[str []]) rfl rfl (by omega) (by omega) rfl rfl rfl rfl rfl rfl (by decide) (by omega) (by omega) rfl ?_; intro q2; refine WL.nil ?_
          refine WQ.acted (B := [.row (some ⟨q2, 0, none⟩) (N + 1) 9 1 (List.replicate (N + 1) [str []])]) (U := .blk r0 (.cells [.slice none 0 0, .slice none 0 0, .slice none 0 0].toArray 92 (0, 0)) :: H) rfl (Mem.le.refl _) (fun w h => Pick.sat (by iterate 60 (try (first | exact Pick.all | (apply Pick.take; (· (repeat (first | exact Out.here | apply Out.there)))) | apply Pick.drop))) h) ?_
          (refine WE.calm 7 (by decide +kernel) rfl rfl (by decide +kernel) rfl (fun c h => by cases h) (by intro zm zF zle; exact sq_E11_1) ?_)
          refine WE.acts [8] (by decide +kernel) (all_cons ?_ (all_nil))
          · refine Acts.mk rfl rfl (fun c h => by cases h) ?_
            refine WL.alloc (cs := [.slice none 0 0, .slice none 0 0, .slice none 0 0]) rfl rfl rfl ?_; intro b; refine WL.nil ?_
            refine WQ.acted (B := [.blk b (.cells [.slice none 0 0, .slice none 0 0, .slice none 0 0].toArray 92 (0, 0))]) (U := .blk r0 (.cells [.slice none 0 0, .slice none 0 0, .slice none 0 0].toArray 92 (0, 0)) :: H) rfl (Mem.le.refl _) (fun w h => Pick.sat (by iterate 60 (try (first | exact Pick.all | (apply Pick.take; (· (repeat (first | exact Out.here | apply Out.there)))) | apply Pick.drop))) h) ?_
            refine WE.done (by decide +kernel) ?_
            (try (refine st_E11_1 ?_; intros))
            exact WQ.join ⟨q2, q4, q6, b, rfl, rfl, rfl, rfl⟩ (by (repeat (first | exact Env.Sub.nil | refine Env.Sub.cons rfl ?_))) (fun w h => Pick.sat (by iterate 60 (try (first | exact Pick.all | (apply Pick.take; (· (repeat (first | exact Out.here | apply Out.there)))) | apply Pick.drop))) h)
        · refine Acts.mk rfl rfl (fun c h => by cases h) ?_
          refine WL.alloc (cs := [.slice none 0 0, .slice none 0 0, .slice none 0 0]) rfl rfl rfl ?_; intro b; refine WL.nil ?_
          refine WQ.acted (B := [.blk b (.cells [.slice none 0 0, .slice none 0 0, .slice none 0 0].toArray 92 (0, 0))]) (U := .blk r0 (.cells [.slice none 0 0, .slice none 0 0, .slice none 0 0].toArray 92 (0, 0)) :: H) rfl (Mem.le.refl _) (fun w h => Pick.sat (by iterate 60 (try (first | exact Pick.all | (apply Pick.take; (· (repeat (first | exact Out.here | apply Out.there)))) | apply Pick.drop))) h) ?_
          refine WE.acts [2] (by decide +kernel) (all_cons ?_ (all_nil))
          · refine Acts.mk rfl rfl (fun c h => by cases h) ?_
            refine WL.makeRow (k:=N + 1) (sz:=1) (by':=16) (zs:=[str []]) rfl rfl (by omega) (by omega) rfl rfl rfl rfl rfl rfl (by decide) (by omega) (by omega) rfl ?_; intro q2; refine WL.nil ?_
            refine WQ.acted (B := [.row (some ⟨q2, 0, none⟩) (N + 1) 9 1 (List.replicate (N + 1) [str []])]) (U := .blk r0 (.cells [.slice none 0 0, .slice none 0 0, .slice none 0 0].toArray 92 (0, 0)) :: H) rfl (Mem.le.refl _) (fun w h => Pick.sat (by iterate 60 (try (first | exact Pick.all | (apply Pick.take; (· (repeat (first | exact Out.here | apply Out.there)))) | apply Pick.drop))) h) ?_
            (refine WE.calm 7 (by decide +kernel) rfl rfl (by decide +kernel) rfl (fun c h => by cases h) (by intro zm zF zle; exact sq_E11_1) ?_)
            refine WE.done (by decide +kernel) ?_
            (try (refine st_E11_1 ?_; intros))
            exact WQ.join ⟨q2, q4, q6, b, rfl, rfl, rfl, rfl⟩ (by (repeat (first | exact Env.Sub.nil | refine Env.Sub.cons rfl ?_))) (fun w h => Pick.sat (by iterate 60 (try (first | exact Pick.all | (apply Pick.take; (· (repeat (first | exact Out.here | apply Out.there)))) | apply Pick.drop))) h)
      · refine Acts.mk rfl rfl (fun c h => by cases h) ?_
        refine WL.alloc (cs := [.slice none 0 0, .slice none 0 0, .slice none 0 0]) rfl rfl rfl ?_; intro b; refine WL.nil ?_
        refine WQ.acted (B := [.blk b (.cells [.slice none 0 0, .slice none 0 0, .slice none 0 0].toArray 92 (0, 0))]) (U := .blk r0 (.cells [.slice none 0 0, .slice none 0 0, .slice none 0 0].toArray 92 (0, 0)) :: H) rfl (Mem.le.refl _) (fun w h => Pick.sat (by iterate 60 (try (first | exact Pick.all | (apply Pick.take; (· (repeat (first | exact Out.here | apply Out.there)))) | apply Pick.drop))) h) ?_
        refine WE.acts [2, 4] (by decide +kernel) (all_cons ?_ (all_cons ?_ (all_nil)))
        · refine Acts.mk rfl rfl (fun c h => by cases h) ?_
          refine WL.makeRow (k:=N + 1) (sz:=1) (by':=16) (zs:=[str []]) rfl rfl (by omega) (by omega) rfl rfl rfl rfl rfl rfl (by decide) (by omega) (by omega) rfl ?_; intro q2; refine WL.nil ?_
          refine WQ.acted (B := [.row (some ⟨q2, 0, none⟩) (N + 1) 9 1 (List.replicate (N + 1) [str []])]) (U := .blk r0 (.cells [.slice none 0 0, .slice none 0 0, .slice none 0 0].toArray 92 (0, 0)) :: H) rfl (Mem.le.refl _) (fun w h => Pick.sat (by iterate 60 (try (first | exact Pick.all | (apply Pick.take; (· (repeat (first | exact Out.here | apply Out.there)))) | apply Pick.drop))) h) ?_
          refine WE.acts [4] (by decide +kernel) (all_cons ?_ (all_nil))
          · refine Acts.mk rfl rfl (fun c h => by cases h) ?_
            refine WL.makeRow (k:=N) (sz:=1) (by':=1) (zs:=[.bool false]) rfl rfl rfl rfl rfl rfl rfl rfl rfl rfl (by decide) (by omega) (by omega) rfl ?_; intro q4; refine WL.nil ?_
            refine WQ.acted (B := [.row (some ⟨q4, 0, none⟩) N 4 1 (List.replicate N [.bool false])]) (U := .blk r0 (.cells [.slice none 0 0, .slice none 0 0, .slice none 0 0].toArray 92 (0, 0)) :: H) rfl (Mem.le.refl _) (fun w h => Pick.sat (by iterate 60 (try (first | exact Pick.all | (apply Pick.take; (· (repeat (first | exact Out.here | apply Out.there)))) | apply Pick.drop))) h) ?_
            (refine WE.calm 7 (by decide +kernel) rfl rfl (by decide +kernel) rfl (fun c h => by cases h) (by intro zm zF zle; exact sq_E11_1) ?_)
            refine WE.done (by decide +kernel) ?_
            (try (refine st_E11_1 ?_; intros))
            exact WQ.join ⟨q2, q4, q6, b, rfl, rfl, rfl, rfl⟩ (by (repeat (first | exact Env.Sub.nil | refine Env.Sub.cons rfl ?_))) (fun w h => Pick.sat (by iterate 60 (try (first | exact Pick.all | (apply Pick.take; (· (repeat (first | exact Out.here | apply Out.there)))) | apply Pick.drop))) h)
        · refine Acts.mk rfl rfl (fun c h => by cases h) ?_
          refine WL.makeRow (k:=N) (sz:=1) (by':=1) (zs:=[.bool false]) rfl rfl rfl rfl rfl rfl rfl rfl rfl rfl (by decide) (by omega) (by omega) rfl ?_; intro q4; refine WL.nil ?_
          refine WQ.acted (B := [.row (some ⟨q4, 0, none⟩) N 4 1 (List.replicate N [.bool false])]) (U := .blk r0 (.cells [.slice none 0 0, .slice none 0 0, .slice none 0 0].toArray 92 (0, 0)) :: H) rfl (Mem.le.refl _) (fun w h => Pick.sat (by iterate 60 (try (first | exact Pick.all | (apply Pick.take; (· (repeat (first | exact Out.here | apply Out.there)))) | apply Pick.drop))) h) ?_
          refine WE.acts [2] (by decide +kernel) (all_cons ?_ (all_nil))
          · refine Acts.mk rfl rfl (fun c h => by cases h) ?_
            refine WL.makeRow (k:=N + 1) (sz:=1) (by':=16) (zs:=[str []]) rfl rfl (by omega) (by omega) rfl rfl rfl rfl rfl rfl (by decide) (by omega) (by omega) rfl ?_; intro q2; refine WL.nil ?_
            refine WQ.acted (B := [.row (some ⟨q2, 0, none⟩) (N + 1) 9 1 (List.replicate (N + 1) [str []])]) (U := .blk r0 (.cells [.slice none 0 0, .slice none 0 0, .slice none 0 0].toArray 92 (0, 0)) :: H) rfl (Mem.le.refl _) (fun w h => Pick.sat (by iterate 60 (try (first | exact Pick.all | (apply Pick.take; (· (repeat (first | exact Out.here | apply Out.there)))) | apply Pick.drop))) h) ?_
            (refine WE.calm 7 (by decide +kernel) rfl rfl (by decide +kernel) rfl (fun c h => by cases h) (by intro zm zF zle; exact sq_E11_1) ?_)
            refine WE.done (by decide +kernel) ?_
            (try (refine st_E11_1 ?_; intros))
            exact WQ.join ⟨q2, q4, q6, b, rfl, rfl, rfl, rfl⟩ (by (repeat (first | exact Env.Sub.nil | refine Env.Sub.cons rfl ?_))) (fun w h => Pick.sat (by iterate 60 (try (first | exact Pick.all | (apply Pick.take; (· (repeat (first | exact Out.here | apply Out.there)))) | apply Pick.drop))) h)
    · refine Acts.mk rfl rfl (fun c h => by cases h) ?_
      refine WL.alloc (cs := [.slice none 0 0, .slice none 0 0, .slice none 0 0]) rfl rfl rfl ?_; intro b; refine WL.nil ?_
      refine WQ.acted (B := [.blk b (.cells [.slice none 0 0, .slice none 0 0, .slice none 0 0].toArray 92 (0, 0))]) (U := .blk r0 (.cells [.slice none 0 0, .slice none 0 0, .slice none 0 0].toArray 92 (0, 0)) :: H) rfl (Mem.le.refl _) (fun w h => Pick.sat (by iterate 60 (try (first | exact Pick.all | (apply Pick.take; (· (repeat (first | exact Out.here | apply Out.there)))) | apply Pick.drop))) h) ?_
      refine WE.acts [2, 4, 6] (by decide +kernel) (all_cons ?_ (all_cons ?_ (all_cons ?_ (all_nil))))
      · refine Acts.mk rfl rfl (fun c h => by cases h) ?_
        refine WL.makeRow (k:=N + 1) (sz:=1) (by':=16) (zs:=[str []]) rfl rfl (by omega) (by omega) rfl rfl rfl rfl rfl rfl (by decide) (by omega) (by omega) rfl ?_; intro q2; refine WL.nil ?_
        refine WQ.acted (B := [.row (some ⟨q2, 0, none⟩) (N + 1) 9 1 (List.replicate (N + 1) [str []])]) (U := .blk r0 (.cells [.slice none 0 0, .slice none 0 0, .slice none 0 0].toArray 92 (0, 0)) :: H) rfl (Mem.le.refl _) (fun w h => Pick.sat (by iterate 60 (try (first | exact Pick.all | (apply Pick.take; (· (repeat (first | exact Out.here | apply Out.there)))) | apply Pick.drop))) h) ?_
        refine WE.acts [4, 6] (by decide +kernel) (all_cons ?_ (all_cons ?_ (all_nil)))
        · refine Acts.mk rfl rfl (fun c h => by cases h) ?_
          refine WL.makeRow (k:=N) (sz:=1) (by':=1) (zs:=[.bool false]) rfl rfl rfl rfl rfl rfl rfl rfl rfl rfl (by decide) (by omega) (by omega) rfl ?_; intro q4; refine WL.nil ?_
          refine WQ.acted (B := [.row (some ⟨q4, 0, none⟩) N 4 1 (List.replicate N [.bool false])]) (U := .blk r0 (.cells [.slice none 0 0, .slice none 0 0, .slice none 0 0].toArray 92 (0, 0)) :: H) rfl (Mem.le.refl _) (fun w h => Pick.sat (by iterate 60 (try (first | exact Pick.all | (apply Pick.take; (· (repeat (first | exact Out.here | apply Out.there)))) | apply Pick.drop))) h) ?_
          refine WE.acts [6] (by decide +kernel) (all_cons ?_ (all_nil))
          · refine Acts.mk rfl rfl (fun c h => by cases h) ?_
            refine WL.makeRow (k:=N) (sz:=1) (by':=1) (zs:=[.int .u8 0]) rfl rfl rfl rfl rfl rfl rfl rfl rfl rfl (by decide) (by omega) (by omega) rfl ?_; intro q6; refine WL.nil ?_
            refine WQ.acted (B := [.row (some ⟨q6, 0, none⟩) N 5 1 (List.replicate N [.int .u8 0])]) (U := .blk r0 (.cells [.slice none 0 0, .slice none 0 0, .slice none 0 0].toArray 92 (0, 0)) :: H) rfl (Mem.le.refl _) (fun w h => Pick.sat (by iterate 60 (try (first | exact Pick.all | (apply Pick.take; (· (repeat (first | exact Out.here | apply Out.there)))) | apply Pick.drop))) h) ?_
            (refine WE.calm 7 (by decide +kernel) rfl rfl (by decide +kernel) rfl (fun c h => by cases h) (by intro zm zF zle; exact sq_E11_1) ?_)
            refine WE.done (by decide +kernel) ?_
            (try (refine st_E11_1 ?_; intros))
            exact WQ.join ⟨q2, q4, q6, b, rfl, rfl, rfl, rfl⟩ (by (repeat (first | exact Env.Sub.nil | refine Env.Sub.cons rfl ?_))) (fun w h => Pick.sat (by iterate 60 (try (first | exact Pick.all | (apply Pick.take; (· (repeat (first | exact Out.here | apply Out.there)))) | apply Pick.drop))) h)
        · refine Acts.mk rfl rfl (fun c h => by cases h) ?_
          refine WL.makeRow (k:=N) (sz:=1) (by':=1) (zs:=[.int .u8 0]) rfl rfl rfl rfl rfl rfl rfl rfl rfl rfl (by decide) (by omega) (by omega) rfl ?_; intro q6; refine WL.nil ?_
          refine WQ.acted (B := [.row (some ⟨q6, 0, none⟩) N 5 1 (List.replicate N [.int .u8 0])]) (U := .blk r0 (.cells [.slice none 0 0, .slice none 0 0, .slice none 0 0].toArray 92 (0, 0)) :: H) rfl (Mem.le.refl _) (fun w h => Pick.sat (by iterate 60 (try (first | exact Pick.all | (apply Pick.take; (· (repeat (first | exact Out.here | apply Out.there)))) | apply Pick.drop))) h) ?_
          refine WE.acts [4] (by decide +kernel) (all_cons ?_ (all_nil))
          · refine Acts.mk rfl rfl (fun c h => by cases h) ?_
            refine WL.makeRow (k:=N) (sz:=1) (by':=1) (zs:=[.bool false]) rfl rfl rfl rfl rfl rfl rfl rfl rfl rfl (by decide) (by omega) (by omega) rfl ?_; intro q4; refine WL.nil ?_
            refine WQ.acted (B := [.row (some ⟨q4, 0, none⟩) N 4 1 (List.replicate N [.bool false])]) (U := .blk r0 (.cells [.slice none 0 0, .slice none 0 0, .slice none 0 0].toArray 92 (0, 0)) :: H) rfl (Mem.le.refl _) (fun w h => Pick.sat (by iterate 60 (try (first | exact Pick.all | (apply Pick.take; (· (repeat (first | exact Out.here | apply Out.there)))) | apply Pick.drop))) h) ?_
            (refine WE.calm 7 (by decide +kernel) rfl rfl (by decide +kernel) rfl (fun c h => by cases h) (by intro zm zF zle; exact sq_E11_1) ?_)
            refine WE.done (by decide +kernel) ?_
            (try (refine st_E11_1 ?_; intros))
            exact WQ.join ⟨q2, q4, q6, b, rfl, rfl, rfl, rfl⟩ (by (repeat (first | exact Env.Sub.nil | refine Env.Sub.cons rfl ?_))) (fun w h => Pick.sat (by iterate 60 (try (first | exact Pick.all | (apply Pick.take; (· (repeat (first | exact Out.here | apply Out.there)))) | apply Pick.drop))) h)
      · refine Acts.mk rfl rfl (fun c h => by cases h) ?_
        refine WL.makeRow (k:=N) (sz:=1) (by':=1) (zs:=[.bool false]) rfl rfl rfl rfl rfl rfl rfl rfl rfl rfl (by decide) (by omega) (by omega) rfl ?_; intro q4; refine WL.nil ?_
        refine WQ.acted (B := [.row (some ⟨q4, 0, none⟩) N 4 1 (List.replicate N [.bool false])]) (U := .blk r0 (.cells [.slice none 0 0, .slice none 0 0, .slice none 0 0].toArray 92 (0, 0)) :: H) rfl (Mem.le.refl _) (fun w h => Pick.sat (by iterate 60 (try (first | exact Pick.all | (apply Pick.take; (· (repeat (first | exact Out.here | apply Out.there)))) | apply Pick.drop))) h) ?_
        refine WE.acts [2, 6] (by decide +kernel) (all_cons ?_ (all_cons ?_ (all_nil)))
        · refine Acts.mk rfl rfl (fun c h => by cases h) ?_
          refine WL.makeRow (k:=N + 1) (sz:=1) (by':=16) (zs:=[str []]) rfl rfl (by omega) (by omega) rfl rfl rfl rfl rfl rfl (by decide) (by omega) (by omega) rfl ?_; intro q2; refine WL.nil ?_
          refine WQ.acted (B := [.row (some ⟨q2, 0, none⟩) (N + 1) 9 1 (List.replicate (N + 1) [str []])]) (U := .blk r0 (.cells [.slice none 0 0, .slice none 0 0, .slice none 0 0].toArray 92 (0, 0)) :: H) rfl (Mem.le.refl _) (fun w h => Pick.sat (by iterate 60 (try (first | exact Pick.all | (apply Pick.take; (· (repeat (first | exact Out.here | apply Out.there)))) | apply Pick.drop))) h) ?_
          refine WE.acts [6] (by decide +kernel) (all_cons ?_ (all_nil))
          · refine Acts.mk rfl rfl (fun c h => by cases h) ?_
            refine WL.makeRow (k:=N) (sz:=1) (by':=1) (zs:=[.int .u8 0]) rfl rfl rfl rfl rfl rfl rfl rfl rfl rfl (by decide) (by omega) (by omega) rfl ?_; intro q6; refine WL.nil ?_
            refine WQ.acted (B := [.row (some ⟨q6, 0, none⟩) N 5 1 (List.replicate N [.int .u8 0])]) (U := .blk r0 (.cells [.slice none 0 0, .slice none 0 0, .slice none 0 0].toArray 92 (0, 0)) :: H) rfl (Mem.le.refl _) (fun w h => Pick.sat (by iterate 60 (try (first | exact Pick.all | (apply Pick.take; (· (repeat (first | exact Out.here | apply Out.there)))) | apply Pick.drop))) h) ?_
            (refine WE.calm 7 (by decide +kernel) rfl rfl (by decide +kernel) rfl (fun c h => by cases h) (by intro zm zF zle; exact sq_E11_1) ?_)
            refine WE.done (by decide +kernel) ?_
            (try (refine st_E11_1 ?_; intros))
            exact WQ.join ⟨q2, q4, q6, b, rfl, rfl, rfl, rfl⟩ (by (repeat (first | exact Env.Sub.nil | refine Env.Sub.cons rfl ?_))) (fun w h => Pick.sat (by iterate 60 (try (first | exact Pick.all | (apply Pick.take; (· (repeat (first | exact Out.here | apply Out.there)))) | apply Pick.drop))) h)
        · refine Acts.mk rfl rfl (fun c h => by cases h) ?_
          refine WL.makeRow (k:=N) (sz:=1) (by':=1) (zs:=[.int .u8 0]) rfl rfl rfl rfl rfl rfl rfl rfl rfl rfl (by decide) (by omega) (by omega) rfl ?_; intro q6; refine WL.nil ?_
          refine WQ.acted (B := [.row (some ⟨q6, 0, none⟩) N 5 1 (List.replicate N [.int .u8 0])]) (U := .blk r0 (.cells [.slice none 0 0, .slice none 0 0, .slice none 0 0].toArray 92 (0, 0)) :: H) rfl (Mem.le.refl _) (fun w h => Pick.sat (by iterate 60 (try (first | exact Pick.all | (apply Pick.take; (· (repeat (first | exact Out.here | apply Out.there)))) | apply Pick.drop))) h) ?_
          refine WE.acts [2] (by decide +kernel) (all_cons ?_ (all_nil))
          · refine Acts.mk rfl rfl (fun c h => by cases h) ?_
            refine WL.makeRow (k:=N + 1) (sz:=1) (by':=16) (zs:=[str []]) rfl rfl (by omega) (by omega) rfl rfl rfl rfl rfl rfl (by decide) (by omega) (by omega) rfl ?_; intro q2; refine WL.nil ?_
            refine WQ.acted (B := [.row (some ⟨q2, 0, none⟩) (N + 1) 9 1 (List.replicate (N + 1) [str []])]) (U := .blk r0 (.cells [.slice none 0 0, .slice none 0 0, .slice none 0 0].toArray 92 (0, 0)) :: H) rfl (Mem.le.refl _) (fun w h => Pick.sat (by iterate 60 (try (first | exact Pick.all | (apply Pick.take; (· (repeat (first | exact Out.here | apply Out.there)))) | apply Pick.drop))) h) ?_
            (refine WE.calm 7 (by decide +kernel) rfl rfl (by decide +kernel) rfl (fun c h => by cases h) (by intro zm zF zle; exact sq_E11_1) ?_)
            refine WE.done (by decide +kernel) ?_
            (try (refine st_E11_1 ?_; intros))
            exact WQ.join ⟨q2, q4, q6, b, rfl, rfl, rfl, rfl⟩ (by (repeat (first | exact Env.Sub.nil | refine Env.Sub.cons rfl ?_))) (fun w h => Pick.sat (by iterate 60 (try (first | exact Pick.all | (apply Pick.take; (· (repeat (first | exact Out.here | apply Out.there)))) | apply Pick.drop))) h)
      · refine Acts.mk rfl rfl (fun c h => by cases h) ?_
        refine WL.makeRow (k:=N) (sz:=1) (by':=1) (zs:=[.int .u8 0]) rfl rfl rfl rfl rfl rfl rfl rfl rfl rfl (by decide) (by omega) (by omega) rfl ?_; intro q6; refine WL.nil ?_
        refine WQ.acted (B := [.row (some ⟨q6, 0, none⟩) N 5 1 (List.replicate N [.int .u8 0])]) (U := .blk r0 (.cells [.slice none 0 0, .slice none 0 0, .slice none 0 0].toArray 92 (0, 0)) :: H) rfl (Mem.le.refl _) (fun w h => Pick.sat (by iterate 60 (try (first | exact Pick.all | (apply Pick.take; (· (repeat (first | exact Out.here | apply Out.there)))) | apply Pick.drop))) h) ?_
        refine WE.acts [2, 4] (by decide +kernel) (all_cons ?_ (all_cons ?_ (all_nil)))
        · refine Acts.mk rfl rfl (fun c h => by cases h) ?_
          refine WL.makeRow (k:=N + 1) (sz:=1) (by':=16) (zs:=[str []]) rfl rfl (by omega) (by omega) rfl rfl rfl rfl rfl rfl (by decide) (by omega) (by omega) rfl ?_; intro q2; refine WL.nil ?_
          refine WQ.acted (B := [.row (some ⟨q2, 0, none⟩) (N + 1) 9 1 (List.replicate (N + 1) [str []])]) (U := .blk r0 (.cells [.slice none 0 0, .slice none 0 0, .slice none 0 0].toArray 92 (0, 0)) :: H) rfl (Mem.le.refl _) (fun w h => Pick.sat (by iterate 60 (try (first | exact Pick.all | (apply Pick.take; (· (repeat (first | exact Out.here | apply Out.there)))) | apply Pick.drop))) h) ?_
          refine WE.acts [4] (by decide +kernel) (all_cons ?_ (all_nil))
          · refine Acts.mk rfl rfl (fun c h => by cases h) ?_
            refine WL.makeRow (k:=N) (sz:=1) (by':=1) (zs:=[.bool false]) rfl rfl rfl rfl rfl rfl rfl rfl rfl rfl (by decide) (by omega) (by omega) rfl ?_; intro q4; refine WL.nil ?_
            refine WQ.acted (B := [.row (some ⟨q4, 0, none⟩) N 4 1 (List.replicate N [.bool false])]) (U := .blk r0 (.cells [.slice none 0 0, .slice none 0 0, .slice none 0 0].toArray 92 (0, 0)) :: H) rfl (Mem.le.refl _) (fun w h => Pick.sat (by iterate 60 (try (first | exact Pick.all | (apply Pick.take; (· (repeat (first | exact Out.here | apply Out.there)))) | apply Pick.drop))) h) ?_
            (refine WE.calm 7 (by decide +kernel) rfl rfl (by decide +kernel) rfl (fun c h => by cases h) (by intro zm zF zle; exact sq_E11_1) ?_)
            refine WE.done (by decide +kernel) ?_
            (try (refine st_E11_1 ?_; intros))
            exact WQ.join ⟨q2, q4, q6, b, rfl, rfl, rfl, rfl⟩ (by (repeat (first | exact Env.Sub.nil | refine Env.Sub.cons rfl ?_))) (fun w h => Pick.sat (by iterate 60 (try (first | exact Pick.all | (apply Pick.take; (· (repeat (first | exact Out.here | apply Out.there)))) | apply Pick.drop))) h)
        · refine Acts.mk rfl rfl (fun c h => by cases h) ?_
          refine WL.makeRow (k:=N) (sz:=1) (by':=1) (zs:=[.bool false]) rfl rfl rfl rfl rfl rfl rfl rfl rfl rfl (by decide) (by omega) (by omega) rfl ?_; intro q4; refine WL.nil ?_
          refine WQ.acted (B := [.row (some ⟨q4, 0, none⟩) N 4 1 (List.replicate N [.bool false])]) (U := .blk r0 (.cells [.slice none 0 0, .slice none 0 0, .slice none 0 0].toArray 92 (0, 0)) :: H) rfl (Mem.le.refl _) (fun w h => Pick.sat (by iterate 60 (try (first | exact Pick.all | (apply Pick.take; (· (repeat (first | exact Out.here | apply Out.there)))) | apply Pick.drop))) h) ?_
          refine WE.acts [2] (by decide +kernel) (all_cons ?_ (all_nil))
          · refine Acts.mk rfl rfl (fun c h => by cases h) ?_
            refine WL.makeRow (k:=N + 1) (sz:=1) (by':=16) (zs:=[str []]) rfl rfl (by omega) (by omega) rfl rfl rfl rfl rfl rfl (by decide) (by omega) (by omega) rfl ?_; intro q2; refine WL.nil ?_
            refine WQ.acted (B := [.row (some ⟨q2, 0, none⟩) (N + 1) 9 1 (List.replicate (N + 1) [str []])]) (U := .blk r0 (.cells [.slice none 0 0, .slice none 0 0, .slice none 0 0].toArray 92 (0, 0)) :: H) rfl (Mem.le.refl _) (fun w h => Pick.sat (by iterate 60 (try (first | exact Pick.all | (apply Pick.take; (· (repeat (first | exact Out.here | apply Out.there)))) | apply Pick.drop))) h) ?_
            (refine WE.calm 7 (by decide +kernel) rfl rfl (by decide +kernel) rfl (fun c h => by cases h) (by intro zm zF zle; exact sq_E11_1) ?_)
            refine WE.done (by decide +kernel) ?_
            (try (refine st_E11_1 ?_; intros))
            exact WQ.join ⟨q2, q4, q6, b, rfl, rfl, rfl, rfl⟩ (by (repeat (first | exact Env.Sub.nil | refine Env.Sub.cons rfl ?_))) (fun w h => Pick.sat (by iterate 60 (try (first | exact Pick.all | (apply Pick.take; (· (repeat (first | exact Out.here | apply Out.there)))) | apply Pick.drop))) h)
  rintro _ _ _ _ ⟨q2, q4, q6, b, rfl, rfl, rfl, rfl⟩
  obtain ⟨s1, s2, s3⟩ := pads_start N
  rw [← s1, ← s2, ← s3]
  (try (refine st_E11_1 ?_; intros))
  have hg0 : atOf Gs.start = 0 ∧ gapAt Gs.start = 0 := by unfold atOf gapAt; exact ⟨rfl, rfl⟩
  refine WC.loopH [(9, .int .i64 ((0) : Int)), (8, .int .i64 ((0) : Int)), (7, .int .i64 ((0) : Int)), (6, .pointer (some ⟨b, 0, none⟩)), (2, .pointer (some ⟨r0, 0, none⟩)), (0, .slice a l.length cap)] ?_ ?_ (fun j r ds m' H' => ∃ (i : Nat) (g : Gs) (ga : Nat) (p : Nat), j = l.length - i ∧ r = [(9, .int .i64 (i : Int)), (8, .int .i64 (ga : Int)), (7, .int .i64 (p : Int)), (6, .pointer (some ⟨b, 0, none⟩)), (2, .pointer (some ⟨r0, 0, none⟩)), (0, .slice a l.length cap)] ∧ ds = [] ∧ m = m' ∧ H' = .blk b (.cells [.slice (some ⟨q2, 0, none⟩) (N + 1) (N + 1), .slice (some ⟨q4, 0, none⟩) N N, .slice (some ⟨q6, 0, none⟩) N N].toArray 92 (0, 0)) :: .blk r0 (.cells [.slice none 0 0, .slice none 0 0, .slice none 0 0].toArray 92 (0, 0)) :: .row (some ⟨q2, 0, none⟩) (N + 1) 9 1 ((putsPad N g).map sV) :: .row (some ⟨q4, 0, none⟩) N 4 1 ((dropsPad N g).map oV) :: .row (some ⟨q6, 0, none⟩) N 5 1 ((bytesPad N g).map uV) :: H ∧ (i ≤ l.length) ∧ (ga = gapAt g) ∧ (p = atOf g) ∧ ((l.drop i).foldl Gs.step g = gapsOf l) ∧ (atOf g + fromA (atomsOf (l.drop i)) = N) ∧ (g = gapsOf (l.take i))) (l.length - (0)) ⟨0, Gs.start, 0, 0, rfl, rfl, rfl, rfl, rfl, by omega, hg0.2.symm, hg0.1.symm, rfl, by rw [List.drop_zero]; omega, by rw [List.take_zero]; rfl⟩ ?_
  · (repeat (first | exact Env.Sub.nil | refine Env.Sub.cons rfl ?_))
  · exact (fun w h => Pick.sat (by iterate 60 (try (first | exact Pick.all | (apply Pick.take; (· (repeat (first | exact Out.here | apply Out.there)))) | apply Pick.drop))) h)
  rintro j r ds m' H' ⟨i, g, ga, p, rfl, rfl, rfl, rfl, rfl, hi, hga0, hp0, hg, hN, hgr⟩
  subst hga0; subst hp0
  have hat : atOf g ≤ N := by omega
  obtain ⟨p1, p2, p3⟩ := pads_len hat
  have hga : gapAt g ≤ atOf g := by unfold atOf; omega
  by_cases hlt : i < l.length
  · obtain ⟨x, hx, hget, htk, hmem, hdr⟩ := at_idx (f := Stp.cs) hlt
    have hxok := hok x hmem
    rw [hdr, List.foldl_cons, step_parts hxok] at hg
    rw [hdr, atoms_cons, fromA_append, from_step] at hN
    have hxp := hf.p x hmem
    have hxd := hf.d x hmem
    have hxk := hf.k x hmem
    have hr1 := ((((hr.more (i := .row (some ⟨q6, 0, none⟩) N 5 1 ((bytesPad N g).map uV))).more (i := .row (some ⟨q4, 0, none⟩) N 4 1 ((dropsPad N g).map oV))).more (i := .row (some ⟨q2, 0, none⟩) (N + 1) 9 1 ((putsPad N g).map sV))).more (i := .blk r0 (.cells [.slice none 0 0, .slice none 0 0, .slice none 0 0].toArray 92 (0, 0)))).more (i := .blk b (.cells [.slice (some ⟨q2, 0, none⟩) (N + 1) (N + 1), .slice (some ⟨q4, 0, none⟩) N N, .slice (some ⟨q6, 0, none⟩) N N].toArray 92 (0, 0)))
    refine WC.rSome hr1 (by omega) ?_
    rintro a0 rfl
    obtain ⟨u1, u2⟩ := put_puts (N := N) (g := g) (s := x.p) hat
    obtain ⟨u3, u4⟩ := put_at g x.p
    have u5 : ((putsPad N g).map sV)[gapAt g]? = some [str g.cur.p] := by rw [List.getElem?_map, u2]; rfl
    have u6 : ((putsPad N g).map sV).set (gapAt g) [str (g.cur.p ++ x.p)] = (putsPad N (g.put x.p)).map sV := by rw [u1, List.map_set]; rfl
    (refine st_E11_1 ?_; intros; rename_i bx)
    refine WC.join (fun r' ds' m' H' => r' = [(6, .pointer (some ⟨b, 0, none⟩)), (7, .int .i64 (atOf g : Int)), (8, .int .i64 (gapAt g : Int)), (9, .int .i64 (i : Int)), (10, .pointer (some ⟨bx, 0, none⟩)), (2, .pointer (some ⟨r0, 0, none⟩)), (0, .slice (some a0) l.length cap)] ∧ ds' = [] ∧ m = m' ∧ H' = .blk bx (.cells [.int .i64 x.k, str x.d, str x.p].toArray 84 (0, 0)) :: .blk b (.cells [.slice (some ⟨q2, 0, none⟩) (N + 1) (N + 1), .slice (some ⟨q4, 0, none⟩) N N, .slice (some ⟨q6, 0, none⟩) N N].toArray 92 (0, 0)) :: .blk r0 (.cells [.slice none 0 0, .slice none 0 0, .slice none 0 0].toArray 92 (0, 0)) :: .row (some ⟨q2, 0, none⟩) (N + 1) 9 1 ((putsPad N (g.put x.p)).map sV) :: .row (some ⟨q4, 0, none⟩) N 4 1 ((dropsPad N g).map oV) :: .row (some ⟨q6, 0, none⟩) N 5 1 ((bytesPad N g).map uV) :: H) ?_ ?_
    · by_cases hp : x.p = []
      · have e : g.put x.p = g := by rw [hp, put_nil]
        rw [e]
        (try (refine st_E11_1 ?_; intros))
        exact WQ.join ⟨rfl, rfl, rfl, rfl⟩ (by (repeat (first | exact Env.Sub.nil | refine Env.Sub.cons rfl ?_))) (fun w h => Pick.sat (by iterate 60 (try (first | exact Pick.all | (apply Pick.take; (· (repeat (first | exact Out.here | apply Out.there)))) | apply Pick.drop))) h)
      · have hpn : g.cur.p.length ≤ 100000000000 := by
          have := cur_len hok i
          rw [← hgr] at this
          omega
        (try (refine st_E11_1 ?_; intros))
        rw [u6]
        exact WQ.join ⟨rfl, rfl, rfl, rfl⟩ (by (repeat (first | exact Env.Sub.nil | refine Env.Sub.cons rfl ?_))) (fun w h => Pick.sat (by iterate 60 (try (first | exact Pick.all | (apply Pick.take; (· (repeat (first | exact Out.here | apply Out.there)))) | apply Pick.drop))) h)
    rintro _ _ _ _ ⟨rfl, rfl, rfl, rfl⟩
    have v1 : dropsPad N (g.put x.p) = dropsPad N g ∧ bytesPad N (g.put x.p) = bytesPad N g := by
      unfold dropsPad bytesPad Gs.put; exact ⟨rfl, rfl⟩
    rw [← v1.1, ← v1.2]
    (try (refine st_E11_1 ?_; intros))
    refine WC.loopH [(11, .int .i64 ((0) : Int)), (6, .pointer (some ⟨b, 0, none⟩)), (7, .int .i64 ((atOf g) : Int)), (8, .int .i64 (gapAt g : Int)), (9, .int .i64 (i : Int)), (10, .pointer (some ⟨bx, 0, none⟩)), (2, .pointer (some ⟨r0, 0, none⟩)), (0, .slice (some a0) l.length cap)] ?_ ?_ (fun j r ds m' H' => ∃ (q : Nat) (p : Nat) (gd : Gs), j = x.d.length - q ∧ r = [(11, .int .i64 (q : Int)), (6, .pointer (some ⟨b, 0, none⟩)), (7, .int .i64 (p : Int)), (8, .int .i64 (gapAt g : Int)), (9, .int .i64 (i : Int)), (10, .pointer (some ⟨bx, 0, none⟩)), (2, .pointer (some ⟨r0, 0, none⟩)), (0, .slice (some a0) l.length cap)] ∧ ds = [] ∧ m = m' ∧ H' = .blk bx (.cells [.int .i64 x.k, str x.d, str x.p].toArray 84 (0, 0)) :: .blk b (.cells [.slice (some ⟨q2, 0, none⟩) (N + 1) (N + 1), .slice (some ⟨q4, 0, none⟩) N N, .slice (some ⟨q6, 0, none⟩) N N].toArray 92 (0, 0)) :: .blk r0 (.cells [.slice none 0 0, .slice none 0 0, .slice none 0 0].toArray 92 (0, 0)) :: .row (some ⟨q2, 0, none⟩) (N + 1) 9 1 ((putsPad N gd).map sV) :: .row (some ⟨q4, 0, none⟩) N 4 1 ((dropsPad N gd).map oV) :: .row (some ⟨q6, 0, none⟩) N 5 1 ((bytesPad N gd).map uV) :: H ∧ (q ≤ x.d.length) ∧ (gd = (g.put x.p).drops (x.d.take q)) ∧ (p = atOf gd) ∧ (p = atOf g + q)) (x.d.length - (0)) ⟨0, atOf g, g.put x.p, rfl, rfl, rfl, rfl, rfl, by omega, by rw [List.take_zero, drops_nil], by rw [u3], by omega⟩ ?_
    · (repeat (first | exact Env.Sub.nil | refine Env.Sub.cons rfl ?_))
    · exact (fun w h => Pick.sat (by iterate 60 (try (first | exact Pick.all | (apply Pick.take; (· (repeat (first | exact Out.here | apply Out.there)))) | apply Pick.drop))) h)
    rintro j r ds m' H' ⟨q, p, gd, rfl, rfl, rfl, rfl, rfl, hj, hgd, hp0, hpj⟩
    subst hp0
    by_cases hjl : q < x.d.length
    · obtain ⟨k1, k2, k3, k4, k5⟩ := byte_drops (N := N) (g := gd) (b := x.d[q]) (by omega)
      obtain ⟨z1, z2, z3⟩ := pads_len (N := N) (g := gd) (by omega)
      have k6 : ((dropsPad N gd).map oV).set (atOf gd) [.bool true] = (dropsPad N (gd.byte x.d[q])).map oV := by rw [k1, List.map_set]; rfl
      have k7 : ((bytesPad N gd).map uV).set (atOf gd) [.int .u8 (gb x.d q : Int)] = (bytesPad N (gd.byte x.d[q])).map uV := by rw [k2, List.map_set, gb_at hjl]; rfl
      (try (refine st_E11_1 ?_; intros))
      rw [k6, k7, ← k3]
      refine WQ.next (x.d.length - (q + 1)) ⟨q + 1, atOf gd + 1, gd.byte x.d[q], rfl, rfl, rfl, rfl, rfl, ?_, ?_, ?_, ?_⟩ (by omega) (by (repeat (first | exact Env.Sub.nil | refine Env.Sub.cons rfl ?_))) (fun w h => Pick.sat (by iterate 60 (try (first | exact Pick.all | (apply Pick.take; (· (repeat (first | exact Out.here | apply Out.there)))) | apply Pick.drop))) h)
      · omega
      · rw [hgd, List.take_succ_eq_append_getElem hjl, drops_snoc]
      · rw [k4]
      · omega
    · have hjx : q = x.d.length := by omega
      rw [hjx, List.take_length] at hgd
      obtain ⟨w1, w2⟩ := drops_at (g.put x.p) x.d
      rw [← hgd, u3] at w1
      rw [← hgd, u4] at w2
      by_cases hk : 0 < x.k
      · rw [if_pos hk, ← hgd] at hg
        obtain ⟨k1, k2, k3, k4, k5⟩ := keep_pads (N := N) (g := gd) (n := x.k.toNat) (by omega) (by omega)
        rw [← k1, ← k2, ← k3]
        have e : (atOf gd : Int) + x.k = ((atOf gd + x.k.toNat : Nat) : Int) := by omega
        (try (refine st_E11_1 ?_; intros))
        rw [e]
        refine WQ.next (l.length - (i + 1)) ⟨i + 1, gd.keeps x.k.toNat, atOf gd + x.k.toNat, atOf gd + x.k.toNat, rfl, rfl, rfl, rfl, rfl, ?_, ?_, ?_, ?_, ?_, ?_⟩ (by omega) (by (repeat (first | exact Env.Sub.nil | refine Env.Sub.cons rfl ?_))) (fun w h => Pick.sat (by iterate 60 (try (first | exact Pick.all | (apply Pick.take; (· (repeat (first | exact Out.here | apply Out.there)))) | apply Pick.drop))) h)
        · omega
        · exact k4.symm
        · exact k5.symm
        · exact hg
        · omega
        · rw [gaps_next htk, ← hgr, step_parts hxok, if_pos hk, ← hgd]
      · rw [if_neg hk, ← hgd] at hg
        (try (refine st_E11_1 ?_; intros))
        refine WQ.next (l.length - (i + 1)) ⟨i + 1, gd, gapAt g, atOf gd, rfl, rfl, rfl, rfl, rfl, ?_, ?_, ?_, ?_, ?_, ?_⟩ (by omega) (by (repeat (first | exact Env.Sub.nil | refine Env.Sub.cons rfl ?_))) (fun w h => Pick.sat (by iterate 60 (try (first | exact Pick.all | (apply Pick.take; (· (repeat (first | exact Out.here | apply Out.there)))) | apply Pick.drop))) h)
        · omega
        · exact w2.symm
        · rfl
        · exact hg
        · omega
        · rw [gaps_next htk, ← hgr, step_parts hxok, if_neg hk, ← hgd]
  · obtain rfl : i = l.length := by omega
    rw [List.drop_length, List.foldl_nil] at hg
    rw [List.drop_length] at hN
    obtain ⟨f1, f2, f3⟩ := pads_full (N := N) (g := g) (by rw [← hN]; rfl)
    rw [f1] at p2; rw [f2] at p3; rw [f3] at p1
    rw [f1, f2, f3]
    subst hg
    have p1' : N + 1 = (putsOf (gapsOf l)).length := by rw [← p1, List.length_map]
    have p2' : N = (dropsOf (gapsOf l)).length := by rw [← p2, List.length_map]
    have p3' : N = (bytesOf (gapsOf l)).length := by rw [← p3, List.length_map]
    (try (refine st_E11_1 ?_; intros))
    exact q_fin0 (H0 := .row (some ⟨q2, 0, none⟩) (N + 1) 9 1 ((putsOf (gapsOf l)).map sV) :: .row (some ⟨q4, 0, none⟩) N 4 1 ((dropsOf (gapsOf l)).map oV) :: .row (some ⟨q6, 0, none⟩) N 5 1 ((bytesOf (gapsOf l)).map uV) :: H) ⟨rfl, q2, q4, q6, by rw [← p1', ← p2', ← p3'], by rw [← p1', ← p2', ← p3']⟩ (hd := (fun w h => Pick.sat (by iterate 60 (try (first | exact Pick.all | (apply Pick.take; (· (repeat (first | exact Out.here | apply Out.there)))) | apply Pick.drop))) h))
end Go.Proofs.Ytelgegefmjlimaa

/-
  The walk of the reference's Move. No condition.
-/
namespace Go.Eng
open Go
theorem mvF_len (last : List UInt8) (b : Bool) : ∀ (ps : List Pos) (p : Nat), mvF ps last p b ≤ (sdA ps last).length
  | [], p => by cases b <;> simp [mvF, sdA_nil]
  | x :: ps, 0 => by rw [sdA_cons]; cases b <;> simp [mvF]
  | x :: ps, p + 1 => by
    have := mvF_len last b ps p
    rw [sdA_cons]
    simp only [mvF, List.length_append, List.length_map, List.length_cons]
    split <;> omega
theorem moved_len (l : List Stp) (p : Nat) (b : Bool) : movedF l p b ≤ (atomsOf (plainOf l)).length := by
  rw [plain_atoms, ← sd_atoms]; exact mvF_len _ _ _ _
theorem sum_take_succ (L : List (List UInt8)) (p : Nat) (h : p < L.length) : ((L.take (p + 1)).map List.length).sum = ((L.take p).map List.length).sum + L[p].length := by
  rw [List.take_succ_eq_append_getElem h, List.map_append, List.sum_append]; rfl
theorem count_take_succ (L : List Bool) (p : Nat) (h : p < L.length) : (L.take (p + 1)).count false = (L.take p).count false + (if L[p] then 0 else 1) := by
  rw [List.take_succ_eq_append_getElem h, List.count_append]
  cases L[p] <;> simp
theorem moved_step (l : List Stp) (p : Nat) (h : p < (dropsOf (gapsOf l)).length) (h' : p < (putsOf (gapsOf l)).length) : movedF l (p + 1) false = movedF l p false + (putsOf (gapsOf l))[p].length + (if (dropsOf (gapsOf l))[p] then 0 else 1) := by
  rw [moved_lists l (p + 1) false (by omega), moved_lists l p false (by omega), sum_take_succ _ _ h', count_take_succ _ _ h]
  simp only [Bool.false_eq_true, if_false]; omega
theorem moved_last (l : List Stp) (p : Nat) (b : Bool) (h : p ≤ (dropsOf (gapsOf l)).length) (h' : p < (putsOf (gapsOf l)).length) : movedF l p b = movedF l p false + (if b then (putsOf (gapsOf l))[p].length else 0) := by
  rw [moved_lists l p b h, moved_lists l p false h, List.getD_eq_getElem?_getD, List.getElem?_eq_getElem h']
  simp
end Go.Eng
namespace Go.Proofs.Ytelgegefmjlimaa
open Go Go.Eng
set_option maxRecDepth 100000
set_option maxHeartbeats 4000000
set_option linter.all false
attribute [local irreducible] WL WC WQ QFun QLoop Does Q1 QRound QAssign Go.Addr.add
attribute [local irreducible] movedF putsOf dropsOf bytesOf gapsOf
theorem rMove_any {a : Option Addr} {cap : Nat} {l : List Stp} {f t : Int} {at_ : Nat} {bh : Bool} (hf : Fit l) (hs : sizesOf l = some (f, t)) (hat : (at_ : Int) ≤ f) (w0 : World) (m : Mem) (H : SHeap) (hr : RowR w0 m H 3 a (l.map Stp.cs)) :
    Does Try.prog 16 #[.slice a l.length cap, .int .i64 (at_ : Int), .bool bh] w0 m H (Gives (.int .i64 (movedF l at_ bh : Int)) m H) := by
  refine Does.of_body (args := [.slice a l.length cap, .int .i64 (at_ : Int), .bool bh]) Try.func16 rfl Try.ntmps16 rfl ?_
  obtain ⟨hok, hal, hpl, hfr, _, g1, g2, _, _⟩ := sized hs
  have hdl := drops_from l hok
  obtain ⟨sl1, sl2⟩ := said_len (gapsOf l)
  (try (refine st ?_; intros))
  refine w_callF Try.func43 ?_ (hs := say_any hf hs _ _ _ hr)
  rintro _ m _ ⟨rfl, q2, q4, q6, rfl, rfl⟩
  obtain ⟨P, hP⟩ : ∃ P, putsOf (gapsOf l) = P := ⟨_, rfl⟩
  obtain ⟨D, hD⟩ : ∃ D, dropsOf (gapsOf l) = D := ⟨_, rfl⟩
  obtain ⟨B, hB⟩ : ∃ B, bytesOf (gapsOf l) = B := ⟨_, rfl⟩
  have hstep := moved_step l
  have hlast := moved_last l
  have hmx := moved_len l
  simp only [hP, hD, hB] at *
  have hPl : (P.map sV).length = P.length := by simp
  have hDl : (D.map oV).length = D.length := by simp
  (refine st ?_; intros; rename_i b)
  refine WC.loopH [(9, .int .i64 ((0) : Int)), (8, .int .i64 ((0) : Int)), (7, .pointer (some ⟨b, 0, none⟩)), (1, .int .i64 (at_ : Int)), (2, .bool bh)] ?_ ?_ (fun j r ds m' H' => ∃ (p : Nat) (n : Nat), j = at_ + 1 - p ∧ r = [(9, .int .i64 (p : Int)), (8, .int .i64 (n : Int)), (7, .pointer (some ⟨b, 0, none⟩)), (1, .int .i64 (at_ : Int)), (2, .bool bh)] ∧ ds = [] ∧ m = m' ∧ H' = .blk b (.cells [.slice (some ⟨q2, 0, none⟩) P.length P.length, .slice (some ⟨q4, 0, none⟩) D.length D.length, .slice (some ⟨q6, 0, none⟩) B.length B.length].toArray 92 (0, 0)) :: .row (some ⟨q2, 0, none⟩) P.length 9 1 (P.map sV) :: .row (some ⟨q4, 0, none⟩) D.length 4 1 (D.map oV) :: .row (some ⟨q6, 0, none⟩) B.length 5 1 (B.map uV) :: H ∧ ((p ≤ at_ ∧ n = movedF l p false) ∨ (p = at_ + 1 ∧ n = movedF l at_ bh))) (at_ + 1 - (0)) ⟨0, 0, rfl, rfl, rfl, rfl, rfl, ?_⟩ ?_
  · (repeat (first | exact Env.Sub.nil | refine Env.Sub.cons rfl ?_))
  · exact (fun w h => Pick.sat (by iterate 60 (try (first | exact Pick.all | (apply Pick.take; (· (repeat (first | exact Out.here | apply Out.there)))) | apply Pick.drop))) h)
  · refine .inl ⟨by omega, ?_⟩; rw [moved_lists l 0 false (by omega)]; simp
  rintro j r ds m' H' ⟨p, n, rfl, rfl, rfl, rfl, rfl, hn⟩
  by_cases hlt : p ≤ at_
  · have hn1 : n = movedF l p false := by rcases hn with h | h <;> omega
    have hm1 := hmx p false
    have hpp : p < P.length := by omega
    have hget : (P.map sV)[p]? = some [str P[p]] := by rw [List.getElem?_map, List.getElem?_eq_getElem hpp]; rfl
    by_cases h2 : p < at_
    · have hpd : p < D.length := by omega
      have hget2 : (D.map oV)[p]? = some [.bool D[p]] := by rw [List.getElem?_map, List.getElem?_eq_getElem hpd]; rfl
      have h3 := hstep p hpd hpp
      have hm2 := hmx (p + 1) false
      cases hd : D[p] with
      | true =>
        rw [hd] at hget2 h3
        simp only [if_true] at h3
        (try (refine st ?_; intros))
        refine WQ.next (at_ + 1 - (p + 1)) ⟨p + 1, n + P[p].length, rfl, rfl, rfl, rfl, rfl, ?_⟩ (by omega) (by (repeat (first | exact Env.Sub.nil | refine Env.Sub.cons rfl ?_))) (fun w h => Pick.sat (by iterate 60 (try (first | exact Pick.all | (apply Pick.take; (· (repeat (first | exact Out.here | apply Out.there)))) | apply Pick.drop))) h)
        exact .inl ⟨by omega, by omega⟩
      | false =>
        rw [hd] at hget2 h3
        simp only [Bool.false_eq_true, if_false] at h3
        (try (refine st ?_; intros))
        refine WQ.next (at_ + 1 - (p + 1)) ⟨p + 1, n + P[p].length + 1, rfl, rfl, rfl, rfl, rfl, ?_⟩ (by omega) (by (repeat (first | exact Env.Sub.nil | refine Env.Sub.cons rfl ?_))) (fun w h => Pick.sat (by iterate 60 (try (first | exact Pick.all | (apply Pick.take; (· (repeat (first | exact Out.here | apply Out.there)))) | apply Pick.drop))) h)
        exact .inl ⟨by omega, by omega⟩
    · have h3 := hlast p bh (by omega) hpp
      have hm2 := hmx p bh
      have hpe : p = at_ := by omega
      cases bh with
      | true =>
        simp only [if_true] at h3
        (try (refine st ?_; intros))
        refine WQ.next (at_ + 1 - (p + 1)) ⟨p + 1, n + P[p].length, rfl, rfl, rfl, rfl, rfl, ?_⟩ (by omega) (by (repeat (first | exact Env.Sub.nil | refine Env.Sub.cons rfl ?_))) (fun w h => Pick.sat (by iterate 60 (try (first | exact Pick.all | (apply Pick.take; (· (repeat (first | exact Out.here | apply Out.there)))) | apply Pick.drop))) h)
        exact .inr ⟨by omega, by rw [← hpe, h3, hn1]⟩
      | false =>
        (try (refine st ?_; intros))
        refine WQ.next (at_ + 1 - (p + 1)) ⟨p + 1, n, rfl, rfl, rfl, rfl, rfl, ?_⟩ (by omega) (by (repeat (first | exact Env.Sub.nil | refine Env.Sub.cons rfl ?_))) (fun w h => Pick.sat (by iterate 60 (try (first | exact Pick.all | (apply Pick.take; (· (repeat (first | exact Out.here | apply Out.there)))) | apply Pick.drop))) h)
        exact .inr ⟨by omega, by rw [← hpe, hn1]⟩
  · have hn1 : n = movedF l at_ bh := by rcases hn with h | h <;> omega
    (try (refine st ?_; intros))
    rw [hn1]
    (try (refine st ?_; intros))
    exact q_fin0 (H0 := H) (Gives.mk rfl) (hd := (fun w h => Pick.sat (by iterate 60 (try (first | exact Pick.all | (apply Pick.take; (· (repeat (first | exact Out.here | apply Out.there)))) | apply Pick.drop))) h))
end Go.Proofs.Ytelgegefmjlimaa

/-
  Plain facts on changes: what a change makes of a text. No condition.
-/
namespace Go.Eng
open Go
/-- what a change makes of a text; none: they are apart -/
def applyA : List UInt8 → List Atm → Option (List UInt8)
  | _, [] => some []
  | s, .p b :: l => (applyA s l).map (b :: ·)
  | c :: s, .k :: l => (applyA s l).map (c :: ·)
  | c :: s, .d b :: l => if c = b then applyA s l else none
  | [], .k :: _ => none
  | [], .d _ :: _ => none
theorem applyA_p (s : List UInt8) (b : UInt8) (l : List Atm) : applyA s (.p b :: l) = (applyA s l).map (b :: ·) := by cases s <;> rfl
theorem applyA_nil (s : List UInt8) : applyA s [] = some [] := by cases s <;> rfl
theorem applyA_ps (s : List UInt8) : ∀ (ds : List UInt8) (l : List Atm), applyA s (ds.map .p ++ l) = (applyA s l).map (ds ++ ·)
  | [], l => by simp
  | b :: ds, l => by rw [List.map_cons, List.cons_append, applyA_p, applyA_ps s ds l, Option.map_map]; rfl
theorem applyA_ks : ∀ (n : Nat) (s : List UInt8) (l : List Atm), n ≤ s.length → applyA s (List.replicate n .k ++ l) = (applyA (s.drop n) l).map (s.take n ++ ·)
  | 0, s, l, _ => by simp
  | n + 1, [], l, h => by simp at h
  | n + 1, c :: s, l, h => by
    rw [List.replicate_succ, List.cons_append, applyA, applyA_ks n s l (by simpa using h), Option.map_map]; rfl
theorem applyA_ds : ∀ (ds s : List UInt8) (l : List Atm), ds.length ≤ s.length → applyA s (ds.map .d ++ l) = if s.take ds.length = ds then applyA (s.drop ds.length) l else none
  | [], s, l, _ => by simp
  | b :: ds, [], l, h => by simp at h
  | b :: ds, c :: s, l, h => by
    rw [List.map_cons, List.cons_append, applyA, applyA_ds ds s l (by simpa using h)]
    by_cases hb : c = b
    · subst hb; simp
    · simp [hb]
end Go.Eng

/-
  The walks of package edit, tenth part: what a change makes of a text; the law's example. No condition.
-/
namespace Go.Eng
open Go Go.RowKit
theorem RowR.blk {w0 : World} {m : Mem} {H : SHeap} {b sz : Nat} {T : TypeId} {fz : Nat × Nat} {es : List (List Value)} {L : List Value} (hm : Item.blk b (.cells L.toArray T fz) ∈ H) (h1 : ∀ e ∈ es, e.length = sz) (hL : es.flatten = L) : RowR w0 m H sz (.some ⟨b, 0, .none⟩) es := by
  subst hL
  intro w hs
  refine ⟨h1, fun j v hj => ?_⟩
  rw [add_none]
  exact Cell.blk hm (by simpa using hj) w hs
def bV (b : UInt8) : List Value := [.int .u8 (b.toNat : Int)]
def applyV (s : List UInt8) (l : List Stp) : Value := match sizesOf l with
  | none => .tuple #[str [], .int .i64 2]
  | some (f, _) => if f ≠ s.length then .tuple #[str [], .int .i64 5] else match applyA s (atomsOf l) with
    | none => .tuple #[str [], .int .i64 270]
    | some o => .tuple #[str o, .int .i64 0]
end Go.Eng
namespace Go.Proofs.Ytelgegefmjlimaa
open Go Go.Eng
set_option maxRecDepth 100000
set_option maxHeartbeats 4000000
set_option linter.all false
attribute [local irreducible] WL WC WQ QFun QLoop Does Q1 QRound QAssign Go.Addr.add
attribute [local irreducible] applyA sizesF sizesOf
theorem sq_E10_1 {G : Prop} (h : G := by (repeat (first | (refine sp ?_; (repeat intro zzc)) | (refine iF 40 rfl ?_; refine w_callG Try.func40 ?_ (hs := sizes_any (by assumption) _ _ _ (by assumption))))); exact WQ.q1 rfl) : G := h
theorem st_E10_1 {G G' : Prop} (next : G') (h : Bx G' → G := by intro zzn; (first | ((refine st ?_; (repeat intro zzc)); (try ((first | (refine iF 40 rfl ?_; refine w_callG Try.func40 ?_ (hs := sizes_any (by assumption) _ _ _ (by assumption))) | ((refine iDraw ?_; (first | refine WC.drawAll rfl (by decide +kernel) ?_ | refine WC.draw 1 rfl (by decide +kernel) ?_ | refine WC.draw 2 rfl (by decide +kernel) ?_ | refine WC.draw 3 rfl (by decide +kernel) ?_ | refine WC.draw 4 rfl (by decide +kernel) ?_ | refine WC.draw 5 rfl (by decide +kernel) ?_ | refine WC.draw 6 rfl (by decide +kernel) ?_ | refine WC.draw 7 rfl (by decide +kernel) ?_ | refine WC.draw 8 rfl (by decide +kernel) ?_ | refine WC.draw 9 rfl (by decide +kernel) ?_ | refine WC.draw 10 rfl (by decide +kernel) ?_ | refine WC.draw 11 rfl (by decide +kernel) ?_ | refine WC.draw 12 rfl (by decide +kernel) ?_ | refine WC.draw 13 rfl (by decide +kernel) ?_ | refine WC.draw 14 rfl (by decide +kernel) ?_ | refine WC.draw 15 rfl (by decide +kernel) ?_ | refine WC.draw 16 rfl (by decide +kernel) ?_ | refine WC.draw 17 rfl (by decide +kernel) ?_ | refine WC.draw 18 rfl (by decide +kernel) ?_ | refine WC.draw 19 rfl (by decide +kernel) ?_ | refine WC.draw 20 rfl (by decide +kernel) ?_ | refine WC.draw 21 rfl (by decide +kernel) ?_ | refine WC.draw 22 rfl (by decide +kernel) ?_ | refine WC.draw 23 rfl (by decide +kernel) ?_ | refine WC.draw 24 rfl (by decide +kernel) ?_)); (repeat (refine WD.cons rfl (fun c h => by cases h) sq_E10_1 ?_)); refine WD.nil ?_)); (try (refine st ?_; (repeat intro zzc)))))) | ((first | (refine iF 40 rfl ?_; refine w_callG Try.func40 ?_ (hs := sizes_any (by assumption) _ _ _ (by assumption))) | ((refine iDraw ?_; (first | refine WC.drawAll rfl (by decide +kernel) ?_ | refine WC.draw 1 rfl (by decide +kernel) ?_ | refine WC.draw 2 rfl (by decide +kernel) ?_ | refine WC.draw 3 rfl (by decide +kernel) ?_ | refine WC.draw 4 rfl (by decide +kernel) ?_ | refine WC.draw 5 rfl (by decide +kernel) ?_ | refine WC.draw 6 rfl (by decide +kernel) ?_ | refine WC.draw 7 rfl (by decide +kernel) ?_ | refine WC.draw 8 rfl (by decide +kernel) ?_ | refine WC.draw 9 rfl (by decide +kernel) ?_ | refine WC.draw 10 rfl (by decide +kernel) ?_ | refine WC.draw 11 rfl (by decide +kernel) ?_ | refine WC.draw 12 rfl (by decide +kernel) ?_ | refine WC.draw 13 rfl (by decide +kernel) ?_ | refine WC.draw 14 rfl (by decide +kernel) ?_ | refine WC.draw 15 rfl (by decide +kernel) ?_ | refine WC.draw 16 rfl (by decide +kernel) ?_ | refine WC.draw 17 rfl (by decide +kernel) ?_ | refine WC.draw 18 rfl (by decide +kernel) ?_ | refine WC.draw 19 rfl (by decide +kernel) ?_ | refine WC.draw 20 rfl (by decide +kernel) ?_ | refine WC.draw 21 rfl (by decide +kernel) ?_ | refine WC.draw 22 rfl (by decide +kernel) ?_ | refine WC.draw 23 rfl (by decide +kernel) ?_ | refine WC.draw 24 rfl (by decide +kernel) ?_)); (repeat (refine WD.cons rfl (fun c h => by cases h) sq_E10_1 ?_)); refine WD.nil ?_)); (try (refine st ?_; (repeat intro zzc))))); (repeat ((first | (refine iF 40 rfl ?_; refine w_callG Try.func40 ?_ (hs := sizes_any (by assumption) _ _ _ (by assumption))) | ((refine iDraw ?_; (first | refine WC.drawAll rfl (by decide +kernel) ?_ | refine WC.draw 1 rfl (by decide +kernel) ?_ | refine WC.draw 2 rfl (by decide +kernel) ?_ | refine WC.draw 3 rfl (by decide +kernel) ?_ | refine WC.draw 4 rfl (by decide +kernel) ?_ | refine WC.draw 5 rfl (by decide +kernel) ?_ | refine WC.draw 6 rfl (by decide +kernel) ?_ | refine WC.draw 7 rfl (by decide +kernel) ?_ | refine WC.draw 8 rfl (by decide +kernel) ?_ | refine WC.draw 9 rfl (by decide +kernel) ?_ | refine WC.draw 10 rfl (by decide +kernel) ?_ | refine WC.draw 11 rfl (by decide +kernel) ?_ | refine WC.draw 12 rfl (by decide +kernel) ?_ | refine WC.draw 13 rfl (by decide +kernel) ?_ | refine WC.draw 14 rfl (by decide +kernel) ?_ | refine WC.draw 15 rfl (by decide +kernel) ?_ | refine WC.draw 16 rfl (by decide +kernel) ?_ | refine WC.draw 17 rfl (by decide +kernel) ?_ | refine WC.draw 18 rfl (by decide +kernel) ?_ | refine WC.draw 19 rfl (by decide +kernel) ?_ | refine WC.draw 20 rfl (by decide +kernel) ?_ | refine WC.draw 21 rfl (by decide +kernel) ?_ | refine WC.draw 22 rfl (by decide +kernel) ?_ | refine WC.draw 23 rfl (by decide +kernel) ?_ | refine WC.draw 24 rfl (by decide +kernel) ?_)); (repeat (refine WD.cons rfl (fun c h => by cases h) sq_E10_1 ?_)); refine WD.nil ?_)); (try (refine st ?_; (repeat intro zzc))))); (repeat revert zzc); exact zzn.out) : G := h ⟨next⟩
theorem apply_any {a : Option Addr} {cap : Nat} {l : List Stp} {s : List UInt8} (hf : Fit l) (hsl : s.length ≤ 1000000000) (w0 : World) (m : Mem) (H : SHeap) (hr : RowR w0 m H 3 a (l.map Stp.cs)) :
    Does Try.prog 22 #[str s, .slice a l.length cap] w0 m H (Gives (applyV s l) m H) := by
  refine Does.of_body (args := [str s, .slice a l.length cap]) Try.func22 rfl Try.ntmps22 rfl ?_
  have hln : (l.map Stp.cs).length = l.length := by simp
  have hlen := hf.len
  cases hs : sizesOf l with
  | none =>
    have e : applyV s l = .tuple #[str [], .int .i64 2] := by simp only [applyV, hs]
    have e2 : szP (sizesOf l) = .tuple #[.int .i64 0, .int .i64 0, .int .i64 2] := by rw [hs]; rfl
    rw [e]
    (try (refine st_E10_1 ?_; intros))
    rw [e2]
    (try (refine st_E10_1 ?_; intros))
    exact q_fin0 (H0 := H) (Gives.mk rfl) (hd := (fun w h => Pick.sat (by iterate 60 (try (first | exact Pick.all | (apply Pick.take; (· (repeat (first | exact Out.here | apply Out.there)))) | apply Pick.drop))) h))
  | some ft =>
    obtain ⟨f, t⟩ := ft
    have e2 : szP (sizesOf l) = .tuple #[.int .i64 f, .int .i64 t, .int .i64 0] := by rw [hs]; rfl
    obtain ⟨hok, hal, hpl, hfr, _, g1, g2, _, _⟩ := sized hs
    by_cases hfs : f = s.length
    · (try (refine st_E10_1 ?_; intros))
      rw [e2]
      (try (refine st_E10_1 ?_; intros))
      refine WC.newRow (T := 5) (sz := 1) ?_
      refine WC.loopH [(29, .int .i64 ((0) : Int)), (28, .int .i64 (l.length : Int)), (27, .slice a l.length cap), (0, str (s)), (9, .slice (none) (0) (0))] ?_ ?_ (fun j r ds m' H' => ∃ i S a9 c9 n9 O, j = l.length - i ∧ r = [(29, .int .i64 (i : Int)), (28, .int .i64 (l.length : Int)), (27, .slice a l.length cap), (0, str S), (9, .slice a9 n9 c9)] ∧ ds = [] ∧ m = m' ∧ H' = .row a9 c9 5 1 (O.map bV) :: H ∧ (i ≤ l.length) ∧ (n9 = O.length) ∧ (O.length ≤ (atomsOf (l.take i)).length + s.length - S.length) ∧ (S.length ≤ s.length) ∧ (fromA (atomsOf (l.drop i)) = S.length) ∧ ((applyA S (atomsOf (l.drop i))).map (O ++ ·) = applyA s (atomsOf l))) (l.length - (0)) ⟨0, s, none, 0, 0, ([] : List UInt8), rfl, rfl, rfl, rfl, rfl, by omega, rfl, by simp, by omega, by rw [List.drop_zero]; omega, by simp⟩ ?_
      · (repeat (first | exact Env.Sub.nil | refine Env.Sub.cons rfl ?_))
      · exact (fun w h => Pick.sat (by iterate 60 (try (first | exact Pick.all | (apply Pick.take; (· (repeat (first | exact Out.here | apply Out.there)))) | apply Pick.drop))) h)
      rintro j r ds m' H' ⟨i, S, a9, c9, n9, O, rfl, rfl, rfl, rfl, rfl, hi, hn9, hO, hSl, hSf, hR⟩
      have hOl : (O.map bV).length = O.length := by simp
      have htl : (atomsOf (l.take i)).length ≤ (atomsOf l).length := by
        have e : atomsOf l = atomsOf (l.take i) ++ atomsOf (l.drop i) := by rw [← atoms_append, List.take_append_drop]
        rw [e]; simp
      subst hn9
      by_cases hlt : i < l.length
      · obtain ⟨x, hx, hget, htk, hmem, hdr⟩ := at_idx (f := Stp.cs) hlt
        have hxl : (atomsOf (l.take (i + 1))).length = (atomsOf (l.take i)).length + x.atoms.length := by rw [htk, atoms_append, atoms_one, List.length_append]
        have hxm : (atomsOf (l.take (i + 1))).length ≤ (atomsOf l).length := by
          have e : atomsOf l = atomsOf (l.take (i + 1)) ++ atomsOf (l.drop (i + 1)) := by rw [← atoms_append, List.take_append_drop]
          rw [e, List.length_append]; omega
        rw [atoms_len] at hxl
        rw [hdr, atoms_cons] at hR hSf
        rw [fromA_append, from_step] at hSf
        have hr1 := hr.more (i := .row a9 c9 5 1 (O.map bV))
        have hxok := hok x hmem
        refine WC.rSome hr1 (by omega) ?_
        rintro a0 rfl
        rcases hxok with ⟨h1, h2, h3⟩ | ⟨h1, h2, h3⟩ | ⟨h1, h2, h3⟩
        · have h2' : x.d.length = 0 := by rw [h2]; rfl
          have h3' : x.p.length = 0 := by rw [h3]; rfl
          have ea : x.atoms = List.replicate x.k.toNat .k := by simp [Stp.atoms, h2, h3]
          rw [ea, applyA_ks x.k.toNat S _ (by omega), Option.map_map] at hR
          have hmin : (S.take x.k.toNat).length = x.k.toNat := by simp; omega
          have hed : (S.drop x.k.toNat).length = S.length - x.k.toNat := by simp
          (refine st_E10_1 ?_; intros; rename_i bx a8 c8)
          rw [hOl, hmin]
          have em : O.map bV ++ (S.take x.k.toNat).map (fun b => [Value.int .u8 (b.toNat : Int)]) = (O ++ S.take x.k.toNat).map bV := by rw [List.map_append]; rfl
          rw [em]
          refine WQ.next (l.length - (i + 1)) ⟨i + 1, S.drop x.k.toNat, a8, c8, O.length + x.k.toNat, O ++ S.take x.k.toNat, rfl, rfl, rfl, rfl, rfl, ?_, ?_, ?_, ?_, ?_, ?_⟩ (by omega) (by (repeat (first | exact Env.Sub.nil | refine Env.Sub.cons rfl ?_))) (fun w h => Pick.sat (by iterate 60 (try (first | exact Pick.all | (apply Pick.take; (· (repeat (first | exact Out.here | apply Out.there)))) | apply Pick.drop))) h)
          · omega
          · rw [List.length_append, hmin]
          · rw [List.length_append, hmin]; omega
          · omega
          · omega
          · rw [← hR]; congr 1; funext q; simp
        · have h3' : x.p.length = 0 := by rw [h3]; rfl
          have ea : x.atoms = x.d.map .d := by simp [Stp.atoms, h1, h3]
          rw [ea, applyA_ds x.d S _ (by omega)] at hR
          have hed : (S.drop x.d.length).length = S.length - x.d.length := by simp
          by_cases h4 : S.take x.d.length = x.d
          · rw [if_pos h4] at hR
            (try (refine st_E10_1 ?_; intros))
            refine WQ.next (l.length - (i + 1)) ⟨i + 1, S.drop x.d.length, a9, c9, O.length, O, rfl, rfl, rfl, rfl, rfl, ?_, ?_, ?_, ?_, ?_, ?_⟩ (by omega) (by (repeat (first | exact Env.Sub.nil | refine Env.Sub.cons rfl ?_))) (fun w h => Pick.sat (by iterate 60 (try (first | exact Pick.all | (apply Pick.take; (· (repeat (first | exact Out.here | apply Out.there)))) | apply Pick.drop))) h)
            · omega
            · rfl
            · omega
            · omega
            · omega
            · exact hR
          · rw [if_neg h4] at hR
            have e : applyV s l = .tuple #[str [], .int .i64 270] := by simp only [applyV, hs, hfs, ne_eq, not_true, if_false, ← hR, Option.map_none]
            rw [e]
            (try (refine st_E10_1 ?_; intros))
            exact q_fin0 (H0 := H) (Gives.mk rfl) (hd := (fun w h => Pick.sat (by iterate 60 (try (first | exact Pick.all | (apply Pick.take; (· (repeat (first | exact Out.here | apply Out.there)))) | apply Pick.drop))) h))
        · have h2' : x.d.length = 0 := by rw [h2]; rfl
          have ea : x.atoms = x.p.map .p := by simp [Stp.atoms, h1, h2]
          rw [ea, applyA_ps S x.p, Option.map_map] at hR
          (refine st_E10_1 ?_; intros; rename_i bx a8 c8)
          rw [hOl]
          have em : O.map bV ++ x.p.map (fun b => [Value.int .u8 (b.toNat : Int)]) = (O ++ x.p).map bV := by rw [List.map_append]; rfl
          rw [em]
          refine WQ.next (l.length - (i + 1)) ⟨i + 1, S, a8, c8, O.length + x.p.length, O ++ x.p, rfl, rfl, rfl, rfl, rfl, ?_, ?_, ?_, ?_, ?_, ?_⟩ (by omega) (by (repeat (first | exact Env.Sub.nil | refine Env.Sub.cons rfl ?_))) (fun w h => Pick.sat (by iterate 60 (try (first | exact Pick.all | (apply Pick.take; (· (repeat (first | exact Out.here | apply Out.there)))) | apply Pick.drop))) h)
          · omega
          · rw [List.length_append]
          · rw [List.length_append]; omega
          · omega
          · omega
          · rw [← hR]; congr 1; funext q; simp
      · obtain rfl : i = l.length := by omega
        rw [List.drop_length] at hR
        have e : applyV s l = .tuple #[str O, .int .i64 0] := by
          have : some O = applyA s (atomsOf l) := by rw [← hR, show atomsOf [] = [] from rfl, applyA_nil]; simp
          simp only [applyV, hs, hfs, ne_eq, not_true, if_false, ← this]
        rw [e]
        (try (refine st_E10_1 ?_; intros))
        refine WL.rowStr (s := O) rfl rfl (by (repeat (first | exact List.Mem.head _ | apply List.Mem.tail))) rfl rfl rfl rfl rfl ?_
        (try (refine st_E10_1 ?_; intros))
        exact q_fin0 (H0 := H) (Gives.mk rfl) (hd := (fun w h => Pick.sat (by iterate 60 (try (first | exact Pick.all | (apply Pick.take; (· (repeat (first | exact Out.here | apply Out.there)))) | apply Pick.drop))) h))
    · have e : applyV s l = .tuple #[str [], .int .i64 5] := by simp [applyV, hs, hfs]
      rw [e]
      (try (refine st_E10_1 ?_; intros))
      rw [e2]
      (try (refine st_E10_1 ?_; intros))
      exact q_fin0 (H0 := H) (Gives.mk rfl) (hd := (fun w h => Pick.sat (by iterate 60 (try (first | exact Pick.all | (apply Pick.take; (· (repeat (first | exact Out.here | apply Out.there)))) | apply Pick.drop))) h))
theorem sq_E10_2 {G : Prop} (h : G := by (repeat (first | (refine sp ?_; (repeat intro zzc)))); exact WQ.q1 rfl) : G := h
theorem st_E10_2 {G G' : Prop} (next : G') (h : Bx G' → G := by intro zzn; (first | ((refine st ?_; (repeat intro zzc)); (try ((first | ((refine iDraw ?_; (first | refine WC.drawAll rfl (by decide +kernel) ?_ | refine WC.draw 1 rfl (by decide +kernel) ?_ | refine WC.draw 2 rfl (by decide +kernel) ?_ | refine WC.draw 3 rfl (by decide +kernel) ?_ | refine WC.draw 4 rfl (by decide +kernel) ?_ | refine WC.draw 5 rfl (by decide +kernel) ?_ | refine WC.draw 6 rfl (by decide +kernel) ?_ | refine WC.draw 7 rfl (by decide +kernel) ?_ | refine WC.draw 8 rfl (by decide +kernel) ?_ | refine WC.draw 9 rfl (by decide +kernel) ?_ | refine WC.draw 10 rfl (by decide +kernel) ?_ | refine WC.draw 11 rfl (by decide +kernel) ?_ | refine WC.draw 12 rfl (by decide +kernel) ?_ | refine WC.draw 13 rfl (by decide +kernel) ?_ | refine WC.draw 14 rfl (by decide +kernel) ?_ | refine WC.draw 15 rfl (by decide +kernel) ?_ | refine WC.draw 16 rfl (by decide +kernel) ?_ | refine WC.draw 17 rfl (by decide +kernel) ?_ | refine WC.draw 18 rfl (by decide +kernel) ?_ | refine WC.draw 19 rfl (by decide +kernel) ?_ | refine WC.draw 20 rfl (by decide +kernel) ?_ | refine WC.draw 21 rfl (by decide +kernel) ?_ | refine WC.draw 22 rfl (by decide +kernel) ?_ | refine WC.draw 23 rfl (by decide +kernel) ?_ | refine WC.draw 24 rfl (by decide +kernel) ?_)); (repeat (refine WD.cons rfl (fun c h => by cases h) sq_E10_2 ?_)); refine WD.nil ?_)); (try (refine st ?_; (repeat intro zzc)))))) | ((first | ((refine iDraw ?_; (first | refine WC.drawAll rfl (by decide +kernel) ?_ | refine WC.draw 1 rfl (by decide +kernel) ?_ | refine WC.draw 2 rfl (by decide +kernel) ?_ | refine WC.draw 3 rfl (by decide +kernel) ?_ | refine WC.draw 4 rfl (by decide +kernel) ?_ | refine WC.draw 5 rfl (by decide +kernel) ?_ | refine WC.draw 6 rfl (by decide +kernel) ?_ | refine WC.draw 7 rfl (by decide +kernel) ?_ | refine WC.draw 8 rfl (by decide +kernel) ?_ | refine WC.draw 9 rfl (by decide +kernel) ?_ | refine WC.draw 10 rfl (by decide +kernel) ?_ | refine WC.draw 11 rfl (by decide +kernel) ?_ | refine WC.draw 12 rfl (by decide +kernel) ?_ | refine WC.draw 13 rfl (by decide +kernel) ?_ | refine WC.draw 14 rfl (by decide +kernel) ?_ | refine WC.draw 15 rfl (by decide +kernel) ?_ | refine WC.draw 16 rfl (by decide +kernel) ?_ | refine WC.draw 17 rfl (by decide +kernel) ?_ | refine WC.draw 18 rfl (by decide +kernel) ?_ | refine WC.draw 19 rfl (by decide +kernel) ?_ | refine WC.draw 20 rfl (by decide +kernel) ?_ | refine WC.draw 21 rfl (by decide +kernel) ?_ | refine WC.draw 22 rfl (by decide +kernel) ?_ | refine WC.draw 23 rfl (by decide +kernel) ?_ | refine WC.draw 24 rfl (by decide +kernel) ?_)); (repeat (refine WD.cons rfl (fun c h => by cases h) sq_E10_2 ?_)); refine WD.nil ?_)); (try (refine st ?_; (repeat intro zzc))))); (repeat ((first | ((refine iDraw ?_; (first | refine WC.drawAll rfl (by decide +kernel) ?_ | refine WC.draw 1 rfl (by decide +kernel) ?_ | refine WC.draw 2 rfl (by decide +kernel) ?_ | refine WC.draw 3 rfl (by decide +kernel) ?_ | refine WC.draw 4 rfl (by decide +kernel) ?_ | refine WC.draw 5 rfl (by decide +kernel) ?_ | refine WC.draw 6 rfl (by decide +kernel) ?_ | refine WC.draw 7 rfl (by decide +kernel) ?_ | refine WC.draw 8 rfl (by decide +kernel) ?_ | refine WC.draw 9 rfl (by decide +kernel) ?_ | refine WC.draw 10 rfl (by decide +kernel) ?_ | refine WC.draw 11 rfl (by decide +kernel) ?_ | refine WC.draw 12 rfl (by decide +kernel) ?_ | refine WC.draw 13 rfl (by decide +kernel) ?_ | refine WC.draw 14 rfl (by decide +kernel) ?_ | refine WC.draw 15 rfl (by decide +kernel) ?_ | refine WC.draw 16 rfl (by decide +kernel) ?_ | refine WC.draw 17 rfl (by decide +kernel) ?_ | refine WC.draw 18 rfl (by decide +kernel) ?_ | refine WC.draw 19 rfl (by decide +kernel) ?_ | refine WC.draw 20 rfl (by decide +kernel) ?_ | refine WC.draw 21 rfl (by decide +kernel) ?_ | refine WC.draw 22 rfl (by decide +kernel) ?_ | refine WC.draw 23 rfl (by decide +kernel) ?_ | refine WC.draw 24 rfl (by decide +kernel) ?_)); (repeat (refine WD.cons rfl (fun c h => by cases h) sq_E10_2 ?_)); refine WD.nil ?_)); (try (refine st ?_; (repeat intro zzc))))); (repeat revert zzc); exact zzn.out) : G := h ⟨next⟩
theorem live_val : applyV [97, 98] [⟨1, [], []⟩, ⟨0, [98], []⟩, ⟨0, [], [99]⟩] = .tuple #[str [97, 99], .int .i64 0] := by
  have h1 : sizesOf [⟨1, [], []⟩, ⟨0, [98], []⟩, ⟨0, [], [99]⟩] = some (2, 2) := by decide +kernel
  have h2 : applyA [97, 98] (atomsOf [⟨1, [], []⟩, ⟨0, [98], []⟩, ⟨0, [], [99]⟩]) = some [97, 99] := by decide +kernel
  simp only [applyV, h1, h2]
  rfl
theorem live_any (w0 : World) (m : Mem) (H : SHeap) : Does Try.prog 12 #[] w0 m H (Gives (.bool true) m H) := by
  refine Does.of_body (args := []) Try.func12 rfl Try.ntmps12 rfl ?_
  (refine st_E10_2 ?_; intros; rename_i b)
  refine w_callF Try.func22 ?_ (hs := apply_any (s := [97, 98]) (l := [⟨1, [], []⟩, ⟨0, [98], []⟩, ⟨0, [], [99]⟩]) ⟨by decide, by decide, by decide, by decide⟩ (by decide) _ _ _ (RowR.blk (by (repeat (first | exact List.Mem.head _ | apply List.Mem.tail))) (by decide) rfl))
  rintro v m1 H1 ⟨rfl, rfl, rfl⟩
  rw [live_val]
  (try (refine st_E10_2 ?_; intros))
  (refine q_fin0 ?_)
  exact Gives.mk (by rw [dcd_true rfl])
end Go.Proofs.Ytelgegefmjlimaa

/-
  The walk of the law EditMoves. No condition.
-/
namespace Go.Proofs.Ytelgegefmjlimaa
open Go Go.Eng
set_option maxRecDepth 100000
set_option maxHeartbeats 4000000
set_option linter.all false
attribute [local irreducible] WL WC WQ QFun QLoop Does Q1 QRound QAssign Go.Addr.add
attribute [local irreducible] movedF sizesOf moveV
theorem moveV_in {l : List Stp} {f t : Int} {k : Nat} {bh : Bool} (hs : sizesOf l = some (f, t)) (hk : (k : Int) ≤ f) : moveV l k bh = .tuple #[.int .i64 (movedF l k bh : Int), .int .i64 0] := by
  obtain ⟨hok, _, _, hfr, _, _⟩ := sized hs
  have hdl := drops_from l hok
  have hp := pos_len l
  unfold moveV
  rw [hs]
  simp only
  rw [if_neg (by omega), move_all l k bh (by omega)]
theorem sq_E13_1 {G : Prop} (h : G := by (repeat (first | (refine sp ?_; (repeat intro zzc)) | (refine iF 12 rfl ?_; refine w_callG Try.func12 ?_ (hs := live_any _ _ _)) | (refine iF 14 rfl ?_; refine w_callG Try.func14 ?_ (hs := refSizes_any (by assumption) _ _ _ (by first | exact RowR.row (by (repeat (first | exact List.Mem.head _ | apply List.Mem.tail))) | exact hr _))) | (refine iF 15 rfl ?_; refine w_callG Try.func15 ?_ (hs := eMove_any (by assumption) _ _ _ (by first | exact hr _ | assumption))))); exact WQ.q1 rfl) : G := h
theorem st_E13_1 {G G' : Prop} (next : G') (h : Bx G' → G := by intro zzn; (first | ((refine st ?_; (repeat intro zzc)); (try ((first | (refine iF 12 rfl ?_; refine w_callG Try.func12 ?_ (hs := live_any _ _ _)) | (refine iF 14 rfl ?_; refine w_callG Try.func14 ?_ (hs := refSizes_any (by assumption) _ _ _ (by first | exact RowR.row (by (repeat (first | exact List.Mem.head _ | apply List.Mem.tail))) | exact hr _))) | (refine iF 15 rfl ?_; refine w_callG Try.func15 ?_ (hs := eMove_any (by assumption) _ _ _ (by first | exact hr _ | assumption))) | ((refine iDraw ?_; (first | refine WC.drawAll rfl (by decide +kernel) ?_ | refine WC.draw 1 rfl (by decide +kernel) ?_ | refine WC.draw 2 rfl (by decide +kernel) ?_ | refine WC.draw 3 rfl (by decide +kernel) ?_ | refine WC.draw 4 rfl (by decide +kernel) ?_ | refine WC.draw 5 rfl (by decide +kernel) ?_ | refine WC.draw 6 rfl (by decide +kernel) ?_ | refine WC.draw 7 rfl (by decide +kernel) ?_ | refine WC.draw 8 rfl (by decide +kernel) ?_ | refine WC.draw 9 rfl (by decide +kernel) ?_ | refine WC.draw 10 rfl (by decide +kernel) ?_ | refine WC.draw 11 rfl (by decide +kernel) ?_ | refine WC.draw 12 rfl (by decide +kernel) ?_ | refine WC.draw 13 rfl (by decide +kernel) ?_ | refine WC.draw 14 rfl (by decide +kernel) ?_ | refine WC.draw 15 rfl (by decide +kernel) ?_ | refine WC.draw 16 rfl (by decide +kernel) ?_ | refine WC.draw 17 rfl (by decide +kernel) ?_ | refine WC.draw 18 rfl (by decide +kernel) ?_ | refine WC.draw 19 rfl (by decide +kernel) ?_ | refine WC.draw 20 rfl (by decide +kernel) ?_ | refine WC.draw 21 rfl (by decide +kernel) ?_ | refine WC.draw 22 rfl (by decide +kernel) ?_ | refine WC.draw 23 rfl (by decide +kernel) ?_ | refine WC.draw 24 rfl (by decide +kernel) ?_)); (repeat (refine WD.cons rfl (fun c h => by cases h) sq_E13_1 ?_)); refine WD.nil ?_)); (try (refine st ?_; (repeat intro zzc)))))) | ((first | (refine iF 12 rfl ?_; refine w_callG Try.func12 ?_ (hs := live_any _ _ _)) | (refine iF 14 rfl ?_; refine w_callG Try.func14 ?_ (hs := refSizes_any (by assumption) _ _ _ (by first | exact RowR.row (by (repeat (first | exact List.Mem.head _ | apply List.Mem.tail))) | exact hr _))) | (refine iF 15 rfl ?_; refine w_callG Try.func15 ?_ (hs := eMove_any (by assumption) _ _ _ (by first | exact hr _ | assumption))) | ((refine iDraw ?_; (first | refine WC.drawAll rfl (by decide +kernel) ?_ | refine WC.draw 1 rfl (by decide +kernel) ?_ | refine WC.draw 2 rfl (by decide +kernel) ?_ | refine WC.draw 3 rfl (by decide +kernel) ?_ | refine WC.draw 4 rfl (by decide +kernel) ?_ | refine WC.draw 5 rfl (by decide +kernel) ?_ | refine WC.draw 6 rfl (by decide +kernel) ?_ | refine WC.draw 7 rfl (by decide +kernel) ?_ | refine WC.draw 8 rfl (by decide +kernel) ?_ | refine WC.draw 9 rfl (by decide +kernel) ?_ | refine WC.draw 10 rfl (by decide +kernel) ?_ | refine WC.draw 11 rfl (by decide +kernel) ?_ | refine WC.draw 12 rfl (by decide +kernel) ?_ | refine WC.draw 13 rfl (by decide +kernel) ?_ | refine WC.draw 14 rfl (by decide +kernel) ?_ | refine WC.draw 15 rfl (by decide +kernel) ?_ | refine WC.draw 16 rfl (by decide +kernel) ?_ | refine WC.draw 17 rfl (by decide +kernel) ?_ | refine WC.draw 18 rfl (by decide +kernel) ?_ | refine WC.draw 19 rfl (by decide +kernel) ?_ | refine WC.draw 20 rfl (by decide +kernel) ?_ | refine WC.draw 21 rfl (by decide +kernel) ?_ | refine WC.draw 22 rfl (by decide +kernel) ?_ | refine WC.draw 23 rfl (by decide +kernel) ?_ | refine WC.draw 24 rfl (by decide +kernel) ?_)); (repeat (refine WD.cons rfl (fun c h => by cases h) sq_E13_1 ?_)); refine WD.nil ?_)); (try (refine st ?_; (repeat intro zzc))))); (repeat ((first | (refine iF 12 rfl ?_; refine w_callG Try.func12 ?_ (hs := live_any _ _ _)) | (refine iF 14 rfl ?_; refine w_callG Try.func14 ?_ (hs := refSizes_any (by assumption) _ _ _ (by first | exact RowR.row (by (repeat (first | exact List.Mem.head _ | apply List.Mem.tail))) | exact hr _))) | (refine iF 15 rfl ?_; refine w_callG Try.func15 ?_ (hs := eMove_any (by assumption) _ _ _ (by first | exact hr _ | assumption))) | ((refine iDraw ?_; (first | refine WC.drawAll rfl (by decide +kernel) ?_ | refine WC.draw 1 rfl (by decide +kernel) ?_ | refine WC.draw 2 rfl (by decide +kernel) ?_ | refine WC.draw 3 rfl (by decide +kernel) ?_ | refine WC.draw 4 rfl (by decide +kernel) ?_ | refine WC.draw 5 rfl (by decide +kernel) ?_ | refine WC.draw 6 rfl (by decide +kernel) ?_ | refine WC.draw 7 rfl (by decide +kernel) ?_ | refine WC.draw 8 rfl (by decide +kernel) ?_ | refine WC.draw 9 rfl (by decide +kernel) ?_ | refine WC.draw 10 rfl (by decide +kernel) ?_ | refine WC.draw 11 rfl (by decide +kernel) ?_ | refine WC.draw 12 rfl (by decide +kernel) ?_ | refine WC.draw 13 rfl (by decide +kernel) ?_ | refine WC.draw 14 rfl (by decide +kernel) ?_ | refine WC.draw 15 rfl (by decide +kernel) ?_ | refine WC.draw 16 rfl (by decide +kernel) ?_ | refine WC.draw 17 rfl (by decide +kernel) ?_ | refine WC.draw 18 rfl (by decide +kernel) ?_ | refine WC.draw 19 rfl (by decide +kernel) ?_ | refine WC.draw 20 rfl (by decide +kernel) ?_ | refine WC.draw 21 rfl (by decide +kernel) ?_ | refine WC.draw 22 rfl (by decide +kernel) ?_ | refine WC.draw 23 rfl (by decide +kernel) ?_ | refine WC.draw 24 rfl (by decide +kernel) ?_)); (repeat (refine WD.cons rfl (fun c h => by cases h) sq_E13_1 ?_)); refine WD.nil ?_)); (try (refine st ?_; (repeat intro zzc))))); (repeat revert zzc); exact zzn.out) : G := h ⟨next⟩
theorem editMoves_any {a : Option Addr} {cap : Nat} {l : List Stp} {at_ : Int} {bh : Bool} (hf : Fit l) (hat : -9223372036854775808 ≤ at_ ∧ at_ ≤ 9223372036854775807) (w0 : World) (m : Mem) (H : SHeap) (hr : ∀ Hp, RowR w0 m Hp 3 a (l.map Stp.cs)) :
    Does Try.prog 3 #[.slice a l.length cap, .int .i64 at_, .bool bh] w0 m H (fun v m' _ => v = .bool true ∧ m.le m') := by
  refine Does.of_body (args := [.slice a l.length cap, .int .i64 at_, .bool bh]) Try.func3 rfl Try.ntmps3 rfl ?_
  (try (refine st_E13_1 ?_; intros))
  refine w_callF Try.func13 ?_ (hs := ref_any hf _ _ _ hr)
  rintro v m _ ⟨rfl, (⟨hsm, c, cp, rfl, rfl⟩ | ⟨hsm, rfl, rfl⟩)⟩
  · have hr1 := hr (.row c cp 84 3 (l.map Stp.cs) :: H)
    cases hs : sizesOf l with
    | none =>
      have e2 : szR (sizesOf l) = .tuple #[.int .i64 0, .int .i64 0, .bool false] := by rw [hs]; rfl
      have e3 : moveV l at_ bh = .tuple #[.int .i64 0, .int .i64 2] := by unfold moveV; rw [hs]
      (try (refine st_E13_1 ?_; intros))
      rw [e2]
      (try (refine st_E13_1 ?_; intros))
      rw [e3]
      (try (refine st_E13_1 ?_; intros))
      (refine q_fin0 ?_)
      exact ⟨rfl, Mem.le.refl _⟩
    | some ft =>
      obtain ⟨f, t⟩ := ft
      have e2 : szR (sizesOf l) = .tuple #[.int .i64 f, .int .i64 t, .bool true] := by rw [hs]; rfl
      obtain ⟨hok, hal, hpl, hfr, _, g1, g2, _, _⟩ := sized hs
      have hdl := drops_from l hok
      by_cases h1 : at_ < 0 ∨ f < at_
      · have e3 : moveV l at_ bh = .tuple #[.int .i64 0, .int .i64 5] := by unfold moveV; rw [hs]; simp only; rw [if_pos h1]
        rcases (show at_ < 0 ∨ (0 ≤ at_ ∧ f < at_) by omega) with h2 | h2
        all_goals ((try (refine st_E13_1 ?_; intros)); rw [e2]; (try (refine st_E13_1 ?_; intros)); rw [e3]; (try (refine st_E13_1 ?_; intros)); (refine q_fin0 ?_); exact ⟨(vb_t (by omega)).symm, Mem.le.refl _⟩)
      · obtain ⟨k, rfl⟩ : ∃ k : Nat, at_ = (k : Int) := ⟨at_.toNat, by omega⟩
        have e3 := moveV_in (bh := bh) hs (k := k) (by omega)
        have e4 := moveV_in (bh := true) hs (k := k) (by omega)
        have hle := moved_le l k bh
        (try (refine st_E13_1 ?_; intros))
        rw [e2]
        (try (refine st_E13_1 ?_; intros))
        rw [e3]
        (try (refine st_E13_1 ?_; intros))
        refine w_callF Try.func16 ?_ (hs := rMove_any hf hs (by omega) _ _ _ (RowR.row (by (repeat (first | exact List.Mem.head _ | apply List.Mem.tail)))))
        rintro v m1 H1 ⟨rfl, rfl, rfl⟩
        (try (refine st_E13_1 ?_; intros))
        rw [e4]
        by_cases h5 : k < f
        · have hnx := moved_next l k (by omega)
          have e6 : (k : Int) + 1 = ((k + 1 : Nat) : Int) := by omega
          have e5 := moveV_in (bh := false) hs (k := k + 1) (by omega)
          (try (refine st_E13_1 ?_; intros))
          rw [e6, e5]
          (try (refine st_E13_1 ?_; intros))
          (refine q_fin0 ?_)
          exact ⟨(vb_t (by omega)).symm, Mem.le.refl _⟩
        · (try (refine st_E13_1 ?_; intros))
          (refine q_fin0 ?_)
          exact ⟨rfl, Mem.le.refl _⟩
  · (try (refine st_E13_1 ?_; intros))
    (refine q_fin0 ?_)
    exact ⟨rfl, Mem.le.refl _⟩
end Go.Proofs.Ytelgegefmjlimaa

/-
  A walk's engine: a law's arguments that are slices of elements of several cells. No condition.
-/
set_option linter.all false
namespace Go.Eng
open Go Go.RowKit Go.ChangeShapes Go.WideShapes Go.ChangeMaps
section
variable {H : Type} {enc : TypeId × Value → H} {P : Program}
theorem rows_at {sz : Nat} : ∀ {es : List (List Value)}, (∀ e ∈ es, e.length = sz) → ∀ {j : Nat} {v : Value}, es.flatten[j]? = some v → ∃ i c e, es[i]? = some e ∧ c < sz ∧ j = i * sz + c ∧ e[c]? = some v
  | [], _, j, v, h => by simp at h
  | e :: es, he, j, v, h => by
    have hl : e.length = sz := he e List.mem_cons_self
    rw [List.flatten_cons] at h
    by_cases hj : j < sz
    · rw [List.getElem?_append_left (by omega)] at h
      exact ⟨0, j, e, rfl, hj, by simp, h⟩
    · rw [List.getElem?_append_right (by omega), hl] at h
      obtain ⟨i, c, e', h1, h2, h3, h4⟩ := rows_at (fun x hx => he x (List.mem_cons_of_mem _ hx)) h
      exact ⟨i + 1, c, e', by simpa using h1, h2, by rw [Nat.add_mul, Nat.one_mul]; omega, h4⟩
theorem open_rows {α : Type} [Inhabited α] (sz : Nat) (val : α → List Value) (dat : α → DataW H) (ok : α → Prop) (hsz : ∀ x, (val x).length = sz) {W : World} {r : Go.Reach} {b0 : Nat} {t e : TypeId} {v : Value} {d : DataW H} {ps : List MemPlace} (ht : P.underlying t = some (.slice e)) (hc : P.cellsOf e = sz)
    (hone : ∀ (n : Nat) (u : List Value) (y : DataW H × List MemPlace), DataW.trod enc P W 0 (fun _ => true) true n e u = some y → ∃ x, u = val x ∧ y.1 = dat x ∧ ok x)
    (hval : Value.okWide P W r b0 t v) (h : DataW.Trod enc P W 0 (fun _ => true) true t v d ps) : ∃ (a : Option Addr) (cap : Nat) (ns : List α) (spare : List (DataW H)), v = .slice a ns.length cap ∧ ns.length ≤ cap ∧ (∀ x ∈ ns, ok x) ∧
      (d = .nil ∧ ns = [] ∨ d = .slice (ns.map dat) spare) ∧ ∀ w0 Hp, RowR w0 (memOf W) Hp sz a (ns.map val) := by
  obtain ⟨a, len, cap, rfl⟩ := okWide_slice ht hval
  obtain ⟨n, hn⟩ := h
  rcases Deep.open_slice ht hn with ⟨h1, h2⟩ | ⟨a', len', cap', m, n', D, Pl, h1, _, hle, _, hm, h2, hx⟩
  · simp [Value.cells] at h1
    obtain ⟨rfl, rfl, rfl⟩ := h1
    exact ⟨none, 0, [], [], rfl, Nat.le_refl _, (by simp), .inl ⟨congrArg Prod.fst h2, rfl⟩, fun _ _ => RowR.nil⟩
  · simp [Value.cells] at h1
    obtain ⟨rfl, rfl, rfl⟩ := h1
    simp only [if_true] at hm
    subst hm
    rw [hc] at hx
    obtain ⟨X, hX⟩ := Deep.choose_lt (α := α) (n := m) (p := fun i x => W.cells? 0 (a'.add (i * sz)) sz = some (val x) ∧ D i = dat x ∧ ok x) (fun i hi => by
      obtain ⟨u, g1, g2⟩ := hx i hi
      obtain ⟨x, rfl, e2, e3⟩ := hone _ _ _ g2
      exact ⟨x, g1, e2, e3⟩)
    refine ⟨some a', m, (List.range len).map X, (List.range (m - len)).map fun j => D (len + j), by simp, by simpa using hle, ?_, .inr ?_, fun w0 Hp => ?_⟩
    · intro x hxm
      obtain ⟨i, hi, rfl⟩ := List.mem_map.1 hxm
      exact (hX i (by have := List.mem_range.1 hi; omega)).2.2
    · have := congrArg Prod.fst h2
      simp only at this
      rw [this, List.map_map]
      congr 1
      exact List.map_congr_left fun i hi => (hX i (by have := List.mem_range.1 hi; omega)).2.1
    · have hall : ∀ e ∈ ((List.range len).map X).map val, e.length = sz := by
        intro e he
        obtain ⟨x, _, rfl⟩ := List.mem_map.1 he
        exact hsz x
      refine RowR.came hall ?_
      intro j v hj
      obtain ⟨i, c, e, h1, h2, rfl, h4⟩ := rows_at hall hj
      rw [List.getElem?_map, List.getElem?_map] at h1
      obtain ⟨x, hx1, rfl⟩ := Option.map_eq_some_iff.1 h1
      obtain ⟨i', hi, rfl⟩ := Option.map_eq_some_iff.1 hx1
      obtain ⟨hjl, rfl⟩ := List.getElem?_eq_some_iff.1 hi
      rw [List.getElem_range] at h4
      have hjl' : i < len := by simpa using hjl
      have g := (World.cells?_some (hX i (by omega)).1).2.2 c h2
      rw [h4] at g
      rw [← g, Go.Addr.add_add]
/-- slices of elements of three cells: a number and two texts -/
theorem open_trips {k : IntKind} {f0 f1 f2 : Field} {W : World} {r : Go.Reach} {b0 : Nat} {t e : TypeId} {v : Value} {d : DataW H} {ps : List MemPlace} (ht : P.underlying t = some (.slice e)) (he : P.underlying e = some (.struct #[f0, f1, f2])) (hc : P.cellsOf e = 3)
    (h0 : f0.offset = 0 ∧ P.underlying f0.type = some (.int k) ∧ P.cellsOf f0.type = 1) (h1 : f1.offset = 1 ∧ P.underlying f1.type = some .string ∧ P.cellsOf f1.type = 1) (h2 : f2.offset = 2 ∧ P.underlying f2.type = some .string ∧ P.cellsOf f2.type = 1)
    (hval : Value.okWide P W r b0 t v) (h : DataW.Trod enc P W 0 (fun _ => true) true t v d ps) : ∃ (a : Option Addr) (cap : Nat) (ns : List (Int × List UInt8 × List UInt8)) (spare : List (DataW H)), v = .slice a ns.length cap ∧ ns.length ≤ cap ∧ (∀ x ∈ ns, (Lit.int k x.1).wf = true) ∧
      (d = .nil ∧ ns = [] ∨ d = .slice (ns.map fun x => .agg [.lit (.int k x.1), .lit (.string x.2.1), .lit (.string x.2.2)]) spare) ∧ ∀ w0 Hp, RowR w0 (memOf W) Hp 3 a (ns.map fun x => [Value.int k x.1, str x.2.1, str x.2.2]) := by
  refine open_rows 3 (fun x : Int × List UInt8 × List UInt8 => [Value.int k x.1, str x.2.1, str x.2.2]) _ (fun x => (Lit.int k x.1).wf = true) (fun _ => rfl) ht hc (fun n u y hy => ?_) hval h
  obtain ⟨y0, y1, y2, m, rfl, hl, g0, g1, g2⟩ := Deep.trod_struct3 he hy
  rw [hc] at hl
  obtain ⟨c0, c1, c2, rfl⟩ : ∃ c0 c1 c2, u = [c0, c1, c2] := by
    match u, hl with
    | [c0, c1, c2], _ => exact ⟨c0, c1, c2, rfl⟩
  rw [h0.1, h0.2.2] at g0
  rw [h1.1, h1.2.2] at g1
  rw [h2.1, h2.2.2] at g2
  obtain ⟨x0, e0, d0, w0⟩ := DataW.trod_int h0.2.1 g0
  obtain ⟨x1, e1, d1, w1⟩ := DataW.trod_string h1.2.1 g1
  obtain ⟨x2, e2, d2, w2⟩ := DataW.trod_string h2.2.1 g2
  simp at e0 e1 e2
  subst e0 e1 e2 d0 d1 d2
  refine ⟨(x0, x1.data.toList, x2.data.toList), rfl, ?_, w0⟩
  simp
end
end Go.Eng

/-
  How the laws' arguments that are changes are read. No condition.
-/
namespace Go.Eng
open Go Go.RowKit Go.ChangeShapes Go.WideShapes Go.ChangeMaps
def Stp.dat {H : Type} (x : Stp) : DataW H := .agg [.lit (.int .i64 x.k), .lit (.string x.d), .lit (.string x.p)]
theorem open_steps {H : Type} {enc : TypeId × Value → H} {P : Program} {f0 f1 f2 : Field} {W : World} {r : Go.Reach} {b0 : Nat} {t e : TypeId} {v : Value} {d : DataW H} {ps : List MemPlace} (ht : P.underlying t = some (.slice e)) (he : P.underlying e = some (.struct #[f0, f1, f2])) (hc : P.cellsOf e = 3)
    (h0 : f0.offset = 0 ∧ P.underlying f0.type = some (.int .i64) ∧ P.cellsOf f0.type = 1) (h1 : f1.offset = 1 ∧ P.underlying f1.type = some .string ∧ P.cellsOf f1.type = 1) (h2 : f2.offset = 2 ∧ P.underlying f2.type = some .string ∧ P.cellsOf f2.type = 1)
    (hval : Value.okWide P W r b0 t v) (h : DataW.Trod enc P W 0 (fun _ => true) true t v d ps) : ∃ (a : Option Addr) (cap : Nat) (l : List Stp) (spare : List (DataW H)), v = .slice a l.length cap ∧ l.length ≤ cap ∧ (∀ x ∈ l, -9223372036854775808 ≤ x.k ∧ x.k ≤ 9223372036854775807) ∧
      (d = .nil ∧ l = [] ∨ d = .slice (l.map Stp.dat) spare) ∧ ∀ w0 Hp, RowR w0 (memOf W) Hp 3 a (l.map Stp.cs) := by
  obtain ⟨a, cap, ns, sp, h1, h2, h3, h4, h5⟩ := open_trips (k := .i64) ht he hc h0 h1 h2 hval h
  refine ⟨a, cap, ns.map fun x => ⟨x.1, x.2.1, x.2.2⟩, sp, by rw [List.length_map]; exact h1, by rw [List.length_map]; exact h2, ?_, ?_, ?_⟩
  · intro x hx
    obtain ⟨y, hy, rfl⟩ := List.mem_map.1 hx
    have := h3 y hy
    simp only [Lit.wf, Bool.and_eq_true, decide_eq_true_eq] at this
    exact this
  · rcases h4 with ⟨g1, g2⟩ | g
    · exact .inl ⟨g1, by rw [g2]; rfl⟩
    · exact .inr (by rw [g, List.map_map]; rfl)
  · intro w0 Hp
    have := h5 w0 Hp
    rwa [List.map_map]
end Go.Eng
namespace Go.Proofs.Ytelgegefmjlimaa
open Go Go.Eng
theorem steps_len {H : Type} (l : List Stp) : l.length ≤ Rows.uptoBulkAll (l.map (Stp.dat (H := H))) ∧ ∀ x ∈ l, x.d.length ≤ Rows.uptoBulkAll (l.map (Stp.dat (H := H))) ∧ x.p.length ≤ Rows.uptoBulkAll (l.map (Stp.dat (H := H))) := by
  induction l with
  | nil => simp
  | cons x l ih =>
    have h1 : Rows.uptoBulk (Stp.dat (H := H) x) = 1 + (x.d.length + 1 + (x.p.length + 1)) + 1 := by simp [Stp.dat, Rows.uptoBulk, Rows.uptoBulkAll]
    simp only [List.map_cons, Rows.uptoBulkAll, List.length_cons]
    refine ⟨by omega, fun y hy => ?_⟩
    rcases List.mem_cons.1 hy with rfl | hy
    · omega
    · have := ih.2 y hy; omega
theorem fit_of {H : Type} {d : DataW H} {l : List Stp} {spare : List (DataW H)} (hk : ∀ x ∈ l, -9223372036854775808 ≤ x.k ∧ x.k ≤ 9223372036854775807) (hd : d = .nil ∧ l = [] ∨ d = .slice (l.map Stp.dat) spare) (hb : Rows.uptoBulk d ≤ 1048576) : Fit l := by
  rcases hd with ⟨rfl, rfl⟩ | rfl
  · exact ⟨by simp, by simp, by simp, by simp⟩
  · simp only [Rows.uptoBulk] at hb
    obtain ⟨h1, h2⟩ := steps_len (H := H) l
    exact ⟨by omega, hk, fun x hx => by have := h2 x hx; omega, fun x hx => by have := h2 x hx; omega⟩
end Go.Proofs.Ytelgegefmjlimaa

/-
  What the law EditMoves needs. No condition.
-/

