/-
  Parts of a walk, joined: E11 E16 E20. No condition.
-/
import Derived.Test.YtelgegefmjlimaaP4
import Derived.Test.YtelgegefmjlimaaP6
import Derived.Test.YtelgegefmjlimaaP5
set_option linter.all false
/-
  The walk of the reference's Say: a change place by place. No condition.
-/
namespace Go.Eng
open Go
def sV (s : List UInt8) : List Value := [str s]
def oV (b : Bool) : List Value := [.bool b]
def uV (b : UInt8) : List Value := [.int .u8 (b.toNat : Int)]
theorem pads_len {N : Nat} {g : Gs} (h : atOf g ≤ N) : ((putsPad N g).map sV).length = N + 1 ∧ ((dropsPad N g).map oV).length = N ∧ ((bytesPad N g).map uV).length = N := by
  have h1 : gapAt g ≤ atOf g := by unfold atOf; omega
  have hl := (flat_lens g.done).2
  refine ⟨?_, ?_, ?_⟩
  · rw [List.length_map, putsPad, pad_length]
    rw [List.length_append, List.length_singleton, hl]
    unfold gapAt at h1; omega
  · rw [List.length_map, dropsPad, pad_length]; rw [dropsOf_len]; exact h
  · rw [List.length_map, bytesPad, pad_length]; rw [bytesOf_len]; exact h
theorem pads_start (N : Nat) : (putsPad N Gs.start).map sV = List.replicate (N + 1) [str []] ∧ (dropsPad N Gs.start).map oV = List.replicate N [.bool false] ∧ (bytesPad N Gs.start).map uV = List.replicate N [.int .u8 0] := by
  refine ⟨?_, ?_, ?_⟩
  · simp [putsPad, pad, Gs.start, sV, List.replicate_succ]
  · simp [dropsPad, pad, Gs.start, oV, dropsOf]
  · simp [bytesPad, pad, Gs.start, uV, bytesOf]
theorem put_nil (g : Gs) : g.put [] = g := by cases g; simp [Gs.put]
def Gs.drops (g : Gs) (s : List UInt8) : Gs := ⟨g.done, ⟨g.cur.p, g.cur.d ++ s⟩⟩
theorem drops_nil (g : Gs) : g.drops [] = g := by cases g; simp [Gs.drops]
theorem drops_snoc (g : Gs) (s : List UInt8) (b : UInt8) : g.drops (s ++ [b]) = (g.drops s).byte b := by simp [Gs.drops, Gs.byte]
theorem drops_at (g : Gs) (s : List UInt8) : atOf (g.drops s) = atOf g + s.length ∧ gapAt (g.drops s) = gapAt g := by
  simp [atOf, gapAt, Gs.drops]; omega
theorem put_at (g : Gs) (s : List UInt8) : atOf (g.put s) = atOf g ∧ gapAt (g.put s) = gapAt g := ⟨rfl, rfl⟩
theorem step_parts {g : Gs} {x : Stp} (h : stpOk x) : g.step x = if 0 < x.k then ((g.put x.p).drops x.d).keeps x.k.toNat else (g.put x.p).drops x.d := by
  obtain ⟨k, d, p⟩ := x
  rcases h with ⟨h1, h2, h3⟩ | ⟨h1, h2, h3⟩ | ⟨h1, h2, h3⟩
  · simp only at h1 h2 h3
    subst h2; subst h3
    simp only [h1, if_true, put_nil, drops_nil]
    simp [Gs.step, h1, Gs.keeps]
  · simp only at h1 h2 h3
    subst h1; subst h3
    simp [Gs.step, h2, put_nil, Gs.drops]
  · simp only at h1 h2 h3
    subst h1; subst h2
    simp [Gs.step, drops_nil, Gs.put]
theorem gb_at {l : List UInt8} {k : Nat} (h : k < l.length) : gb l k = (l[k]).toNat := by unfold gb; rw [List.getD_eq_getElem?_getD, List.getElem?_eq_getElem h]; rfl
theorem toA_le : ∀ l : List Atm, toA l ≤ l.length
  | [] => Nat.le_refl _
  | .k :: l => by have := toA_le l; simp only [toA, List.length_cons]; omega
  | .d _ :: l => by have := toA_le l; simp only [toA, List.length_cons]; omega
  | .p _ :: l => by have := toA_le l; simp only [toA, List.length_cons]; omega
theorem cur_len {l : List Stp} (h : ∀ s ∈ l, stpOk s) (i : Nat) : (gapsOf (l.take i)).cur.p.length ≤ (atomsOf l).length := by
  have h1 := (nf_sizes (l.take i) (fun s hs => h s (List.mem_of_mem_take hs))).2
  have h2 := toA_le (atomsOf (l.take i))
  have h3 : (gapsOf (l.take i)).cur.p.length ≤ toA (nfOf (gapsOf (l.take i))) := by
    unfold nfOf gapA; rw [toA_append, toA_append, toA_p]; omega
  have e : atomsOf l = atomsOf (l.take i) ++ atomsOf (l.drop i) := by rw [← atoms_append, List.take_append_drop]
  rw [e, List.length_append]; omega
theorem gaps_next {l : List Stp} {i : Nat} {x : Stp} (h : l.take (i + 1) = l.take i ++ [x]) : gapsOf (l.take (i + 1)) = (gapsOf (l.take i)).step x := by
  rw [h, gapsOf, List.foldl_append]; rfl
end Go.Eng
namespace Go.Proofs.Ytelgegefmjlimaa
open Go Go.Eng
set_option maxRecDepth 100000
set_option maxHeartbeats 4000000
set_option linter.all false
attribute [local irreducible] WL WC WQ QFun QLoop Does Q1 QRound QAssign Go.Addr.add
attribute [local irreducible] sizesF sizesOf putsPad dropsPad bytesPad Gs.put Gs.drops Gs.keeps Gs.byte atOf gapAt
theorem sq_E11_1 {G : Prop} (h : G := by (repeat (first | (refine sp ?_; (repeat intro zzc)) | (refine iF 14 rfl ?_; refine w_callG Try.func14 ?_ (hs := refSizes_any (by assumption) _ _ _ (by repeat (first | assumption | apply RowR.more)))))); exact WQ.q1 rfl) : G := h
theorem cm_E11_1 {G G' : Prop} (next : G') (h : Bx G' → G := by intro zzn; (try (refine wcal 0 ?_ (hwl := by intro zm zF zle; exact sq_E11_1))); (try (refine wcal 1 ?_ (hwl := by intro zm zF zle; exact sq_E11_1))); (try (refine wcal 2 ?_ (hwl := by intro zm zF zle; exact sq_E11_1))); (try (refine wcal 3 ?_ (hwl := by intro zm zF zle; exact sq_E11_1))); (try (refine wcal 4 ?_ (hwl := by intro zm zF zle; exact sq_E11_1))); (try (refine wcal 5 ?_ (hwl := by intro zm zF zle; exact sq_E11_1))); (try (refine wcal 6 ?_ (hwl := by intro zm zF zle; exact sq_E11_1))); (try (refine wcal 7 ?_ (hwl := by intro zm zF zle; exact sq_E11_1))); (try (refine wcal 8 ?_ (hwl := by intro zm zF zle; exact sq_E11_1))); (try (refine wcal 9 ?_ (hwl := by intro zm zF zle; exact sq_E11_1))); (try (refine wcal 10 ?_ (hwl := by intro zm zF zle; exact sq_E11_1))); (try (refine wcal 11 ?_ (hwl := by intro zm zF zle; exact sq_E11_1))); (try (refine wcal 12 ?_ (hwl := by intro zm zF zle; exact sq_E11_1))); (try (refine wcal 13 ?_ (hwl := by intro zm zF zle; exact sq_E11_1))); (try (refine wcal 14 ?_ (hwl := by intro zm zF zle; exact sq_E11_1))); (try (refine wcal 15 ?_ (hwl := by intro zm zF zle; exact sq_E11_1))); (try (refine wcal 16 ?_ (hwl := by intro zm zF zle; exact sq_E11_1))); (try (refine wcal 17 ?_ (hwl := by intro zm zF zle; exact sq_E11_1))); (try (refine wcal 18 ?_ (hwl := by intro zm zF zle; exact sq_E11_1))); (try (refine wcal 19 ?_ (hwl := by intro zm zF zle; exact sq_E11_1))); (try (refine wcal 20 ?_ (hwl := by intro zm zF zle; exact sq_E11_1))); (try (refine wcal 21 ?_ (hwl := by intro zm zF zle; exact sq_E11_1))); (try (refine wcal 22 ?_ (hwl := by intro zm zF zle; exact sq_E11_1))); (try (refine wcal 23 ?_ (hwl := by intro zm zF zle; exact sq_E11_1))); (try (refine wcal 24 ?_ (hwl := by intro zm zF zle; exact sq_E11_1))); (try (refine wcal 25 ?_ (hwl := by intro zm zF zle; exact sq_E11_1))); (try (refine wcal 26 ?_ (hwl := by intro zm zF zle; exact sq_E11_1))); (try (refine wcal 27 ?_ (hwl := by intro zm zF zle; exact sq_E11_1))); (try (refine wcal 28 ?_ (hwl := by intro zm zF zle; exact sq_E11_1))); (try (refine wcal 29 ?_ (hwl := by intro zm zF zle; exact sq_E11_1))); (try (refine wcal 30 ?_ (hwl := by intro zm zF zle; exact sq_E11_1))); (try (refine wcal 31 ?_ (hwl := by intro zm zF zle; exact sq_E11_1))); (try (refine wcal 32 ?_ (hwl := by intro zm zF zle; exact sq_E11_1))); (try (refine wcal 33 ?_ (hwl := by intro zm zF zle; exact sq_E11_1))); (try (refine wcal 34 ?_ (hwl := by intro zm zF zle; exact sq_E11_1))); (try (refine wcal 35 ?_ (hwl := by intro zm zF zle; exact sq_E11_1))); (try (refine wcal 36 ?_ (hwl := by intro zm zF zle; exact sq_E11_1))); (try (refine wcal 37 ?_ (hwl := by intro zm zF zle; exact sq_E11_1))); (try (refine wcal 38 ?_ (hwl := by intro zm zF zle; exact sq_E11_1))); (try (refine wcal 39 ?_ (hwl := by intro zm zF zle; exact sq_E11_1))); (try (refine wcal 40 ?_ (hwl := by intro zm zF zle; exact sq_E11_1))); (try (refine wcal 41 ?_ (hwl := by intro zm zF zle; exact sq_E11_1))); exact zzn.out) : G := h ⟨next⟩
theorem st_E11_1 {G G' : Prop} (next : G') (h : Bx G' → G := by intro zzn; (first | ((refine st ?_; (repeat intro zzc)); (try ((first | (refine iF 14 rfl ?_; refine w_callG Try.func14 ?_ (hs := refSizes_any (by assumption) _ _ _ (by repeat (first | assumption | apply RowR.more)))) | ((refine iDraw ?_; (first | refine WC.drawAll rfl (by decide +kernel) ?_ | refine WC.draw 1 rfl (by decide +kernel) ?_ | refine WC.draw 2 rfl (by decide +kernel) ?_ | refine WC.draw 3 rfl (by decide +kernel) ?_ | refine WC.draw 4 rfl (by decide +kernel) ?_ | refine WC.draw 5 rfl (by decide +kernel) ?_ | refine WC.draw 6 rfl (by decide +kernel) ?_ | refine WC.draw 7 rfl (by decide +kernel) ?_ | refine WC.draw 8 rfl (by decide +kernel) ?_ | refine WC.draw 9 rfl (by decide +kernel) ?_ | refine WC.draw 10 rfl (by decide +kernel) ?_ | refine WC.draw 11 rfl (by decide +kernel) ?_ | refine WC.draw 12 rfl (by decide +kernel) ?_ | refine WC.draw 13 rfl (by decide +kernel) ?_ | refine WC.draw 14 rfl (by decide +kernel) ?_ | refine WC.draw 15 rfl (by decide +kernel) ?_ | refine WC.draw 16 rfl (by decide +kernel) ?_ | refine WC.draw 17 rfl (by decide +kernel) ?_ | refine WC.draw 18 rfl (by decide +kernel) ?_ | refine WC.draw 19 rfl (by decide +kernel) ?_ | refine WC.draw 20 rfl (by decide +kernel) ?_ | refine WC.draw 21 rfl (by decide +kernel) ?_ | refine WC.draw 22 rfl (by decide +kernel) ?_ | refine WC.draw 23 rfl (by decide +kernel) ?_ | refine WC.draw 24 rfl (by decide +kernel) ?_)); (repeat (refine WD.cons rfl (fun c h => by cases h) sq_E11_1 ?_)); refine WD.nil ?_)); (try (refine st ?_; (repeat intro zzc)))))) | ((first | (refine iF 14 rfl ?_; refine w_callG Try.func14 ?_ (hs := refSizes_any (by assumption) _ _ _ (by repeat (first | assumption | apply RowR.more)))) | ((refine iDraw ?_; (first | refine WC.drawAll rfl (by decide +kernel) ?_ | refine WC.draw 1 rfl (by decide +kernel) ?_ | refine WC.draw 2 rfl (by decide +kernel) ?_ | refine WC.draw 3 rfl (by decide +kernel) ?_ | refine WC.draw 4 rfl (by decide +kernel) ?_ | refine WC.draw 5 rfl (by decide +kernel) ?_ | refine WC.draw 6 rfl (by decide +kernel) ?_ | refine WC.draw 7 rfl (by decide +kernel) ?_ | refine WC.draw 8 rfl (by decide +kernel) ?_ | refine WC.draw 9 rfl (by decide +kernel) ?_ | refine WC.draw 10 rfl (by decide +kernel) ?_ | refine WC.draw 11 rfl (by decide +kernel) ?_ | refine WC.draw 12 rfl (by decide +kernel) ?_ | refine WC.draw 13 rfl (by decide +kernel) ?_ | refine WC.draw 14 rfl (by decide +kernel) ?_ | refine WC.draw 15 rfl (by decide +kernel) ?_ | refine WC.draw 16 rfl (by decide +kernel) ?_ | refine WC.draw 17 rfl (by decide +kernel) ?_ | refine WC.draw 18 rfl (by decide +kernel) ?_ | refine WC.draw 19 rfl (by decide +kernel) ?_ | refine WC.draw 20 rfl (by decide +kernel) ?_ | refine WC.draw 21 rfl (by decide +kernel) ?_ | refine WC.draw 22 rfl (by decide +kernel) ?_ | refine WC.draw 23 rfl (by decide +kernel) ?_ | refine WC.draw 24 rfl (by decide +kernel) ?_)); (repeat (refine WD.cons rfl (fun c h => by cases h) sq_E11_1 ?_)); refine WD.nil ?_)); (try (refine st ?_; (repeat intro zzc))))); (repeat ((first | (refine iF 14 rfl ?_; refine w_callG Try.func14 ?_ (hs := refSizes_any (by assumption) _ _ _ (by repeat (first | assumption | apply RowR.more)))) | ((refine iDraw ?_; (first | refine WC.drawAll rfl (by decide +kernel) ?_ | refine WC.draw 1 rfl (by decide +kernel) ?_ | refine WC.draw 2 rfl (by decide +kernel) ?_ | refine WC.draw 3 rfl (by decide +kernel) ?_ | refine WC.draw 4 rfl (by decide +kernel) ?_ | refine WC.draw 5 rfl (by decide +kernel) ?_ | refine WC.draw 6 rfl (by decide +kernel) ?_ | refine WC.draw 7 rfl (by decide +kernel) ?_ | refine WC.draw 8 rfl (by decide +kernel) ?_ | refine WC.draw 9 rfl (by decide +kernel) ?_ | refine WC.draw 10 rfl (by decide +kernel) ?_ | refine WC.draw 11 rfl (by decide +kernel) ?_ | refine WC.draw 12 rfl (by decide +kernel) ?_ | refine WC.draw 13 rfl (by decide +kernel) ?_ | refine WC.draw 14 rfl (by decide +kernel) ?_ | refine WC.draw 15 rfl (by decide +kernel) ?_ | refine WC.draw 16 rfl (by decide +kernel) ?_ | refine WC.draw 17 rfl (by decide +kernel) ?_ | refine WC.draw 18 rfl (by decide +kernel) ?_ | refine WC.draw 19 rfl (by decide +kernel) ?_ | refine WC.draw 20 rfl (by decide +kernel) ?_ | refine WC.draw 21 rfl (by decide +kernel) ?_ | refine WC.draw 22 rfl (by decide +kernel) ?_ | refine WC.draw 23 rfl (by decide +kernel) ?_ | refine WC.draw 24 rfl (by decide +kernel) ?_)); (repeat (refine WD.cons rfl (fun c h => by cases h) sq_E11_1 ?_)); refine WD.nil ?_)); (try (refine st ?_; (repeat intro zzc))))); (repeat revert zzc); exact zzn.out) : G := h ⟨next⟩
theorem say_any {a : Option Addr} {cap : Nat} {l : List Stp} {f t : Int} (hf : Fit l) (hs : sizesOf l = some (f, t)) (w0 : World) (m : Mem) (H : SHeap) (hr : RowR w0 m H 3 a (l.map Stp.cs)) :
    Does Try.prog 43 #[.slice a l.length cap] w0 m H (fun v m' H' => m' = m ∧ ∃ q2 q4 q6, v = .agg #[.slice (some ⟨q2, 0, none⟩) (putsOf (gapsOf l)).length (putsOf (gapsOf l)).length, .slice (some ⟨q4, 0, none⟩) (dropsOf (gapsOf l)).length (dropsOf (gapsOf l)).length, .slice (some ⟨q6, 0, none⟩) (bytesOf (gapsOf l)).length (bytesOf (gapsOf l)).length] ∧
      H' = .row (some ⟨q2, 0, none⟩) (putsOf (gapsOf l)).length 9 1 ((putsOf (gapsOf l)).map sV) :: .row (some ⟨q4, 0, none⟩) (dropsOf (gapsOf l)).length 4 1 ((dropsOf (gapsOf l)).map oV) :: .row (some ⟨q6, 0, none⟩) (bytesOf (gapsOf l)).length 5 1 ((bytesOf (gapsOf l)).map uV) :: H) := by
  refine Does.of_body (args := [.slice a l.length cap]) Try.func43 rfl Try.ntmps43 rfl ?_
  have hln : (l.map Stp.cs).length = l.length := by simp
  have hlen := hf.len
  have e2 : szR (sizesOf l) = .tuple #[.int .i64 f, .int .i64 t, .bool true] := by rw [hs]; rfl
  obtain ⟨hok, hal, hpl, hfr, _, g1, g2, _, _⟩ := sized hs
  obtain ⟨N, rfl⟩ : ∃ N : Nat, f = (N : Int) := ⟨f.toNat, by omega⟩
  (refine st_E11_1 ?_; intros; rename_i r0)
  rw [e2]
  (try (refine st_E11_1 ?_; intros))
  refine WC.join (fun r' ds' m' H' => ∃ q2 q4 q6 b, r' = [(6, .pointer (some ⟨b, 0, none⟩)), (2, .pointer (some ⟨r0, 0, none⟩)), (0, .slice a l.length cap)] ∧ ds' = [] ∧ m = m' ∧ H' = .blk b (.cells [.slice (some ⟨q2, 0, none⟩) (N + 1) (N + 1), .slice (some ⟨q4, 0, none⟩) N N, .slice (some ⟨q6, 0, none⟩) N N].toArray 92 (0, 0)) :: .blk r0 (.cells [.slice none 0 0, .slice none 0 0, .slice none 0 0].toArray 92 (0, 0)) :: .row (some ⟨q2, 0, none⟩) (N + 1) 9 1 (List.replicate (N + 1) [str []]) :: .row (some ⟨q4, 0, none⟩) N 4 1 (List.replicate N [.bool false]) :: .row (some ⟨q6, 0, none⟩) N 5 1 (List.replicate N [.int .u8 0]) :: H) ?_ ?_
  · refine WC.drawE 9 ([]) (.blk r0 (.cells [.slice none 0 0, .slice none 0 0, .slice none 0 0].toArray 92 (0, 0)) :: H) rfl (by decide +kernel) zpk ?_
    (refine cm_E11_1 ?_)
    refine WE.acts [2, 4, 6, 8] (by decide +kernel) (all_cons ?_ (all_cons ?_ (all_cons ?_ (all_cons ?_ (all_nil)))))
    · refine Acts.mk rfl rfl (fun c h => by cases h) ?_
      refine WL.makeRow (k:=N + 1) (sz:=1) (by':=16) (zs:=[str []]) rfl rfl (by omega) (by omega) rfl rfl rfl rfl rfl rfl (by decide) (by omega) (by omega) rfl ?_; intro q2; refine WL.nil ?_
      refine WQ.acted (B := [.row (some ⟨q2, 0, none⟩) (N + 1) 9 1 (List.replicate (N + 1) [str []])]) (U := .blk r0 (.cells [.slice none 0 0, .slice none 0 0, .slice none 0 0].toArray 92 (0, 0)) :: H) rfl (Mem.le.refl _) zpk ?_
      refine WE.acts [4, 6, 8] (by decide +kernel) (all_cons ?_ (all_cons ?_ (all_cons ?_ (all_nil))))
      · refine Acts.mk rfl rfl (fun c h => by cases h) ?_
        refine WL.makeRow (k:=N) (sz:=1) (by':=1) (zs:=[.bool false]) rfl rfl rfl rfl rfl rfl rfl rfl rfl rfl (by decide) (by omega) (by omega) rfl ?_; intro q4; refine WL.nil ?_
        refine WQ.acted (B := [.row (some ⟨q4, 0, none⟩) N 4 1 (List.replicate N [.bool false])]) (U := .blk r0 (.cells [.slice none 0 0, .slice none 0 0, .slice none 0 0].toArray 92 (0, 0)) :: H) rfl (Mem.le.refl _) zpk ?_
        refine WE.acts [6, 8] (by decide +kernel) (all_cons ?_ (all_cons ?_ (all_nil)))
        · refine Acts.mk rfl rfl (fun c h => by cases h) ?_
          refine WL.makeRow (k:=N) (sz:=1) (by':=1) (zs:=[.int .u8 0]) rfl rfl rfl rfl rfl rfl rfl rfl rfl rfl (by decide) (by omega) (by omega) rfl ?_; intro q6; refine WL.nil ?_
          refine WQ.acted (B := [.row (some ⟨q6, 0, none⟩) N 5 1 (List.replicate N [.int .u8 0])]) (U := .blk r0 (.cells [.slice none 0 0, .slice none 0 0, .slice none 0 0].toArray 92 (0, 0)) :: H) rfl (Mem.le.refl _) zpk ?_
          (refine WE.calm 7 (by decide +kernel) rfl rfl (by decide +kernel) rfl (fun c h => by cases h) (by intro zm zF zle; exact sq_E11_1) ?_)
          refine WE.acts [8] (by decide +kernel) (all_cons ?_ (all_nil))
          · refine Acts.mk rfl rfl (fun c h => by cases h) ?_
            refine WL.alloc (cs := [.slice none 0 0, .slice none 0 0, .slice none 0 0]) rfl rfl rfl ?_; intro b; refine WL.nil ?_
            refine WQ.acted (B := [.blk b (.cells [.slice none 0 0, .slice none 0 0, .slice none 0 0].toArray 92 (0, 0))]) (U := .blk r0 (.cells [.slice none 0 0, .slice none 0 0, .slice none 0 0].toArray 92 (0, 0)) :: H) rfl (Mem.le.refl _) zpk ?_
            refine WE.done (by decide +kernel) ?_
            (try (refine st_E11_1 ?_; intros))
            exact WQ.join ⟨q2, q4, q6, b, rfl, rfl, rfl, rfl⟩ zsb zpk
        · refine Acts.mk rfl rfl (fun c h => by cases h) ?_
          refine WL.alloc (cs := [.slice none 0 0, .slice none 0 0, .slice none 0 0]) rfl rfl rfl ?_; intro b; refine WL.nil ?_
          refine WQ.acted (B := [.blk b (.cells [.slice none 0 0, .slice none 0 0, .slice none 0 0].toArray 92 (0, 0))]) (U := .blk r0 (.cells [.slice none 0 0, .slice none 0 0, .slice none 0 0].toArray 92 (0, 0)) :: H) rfl (Mem.le.refl _) zpk ?_
          refine WE.acts [6] (by decide +kernel) (all_cons ?_ (all_nil))
          · refine Acts.mk rfl rfl (fun c h => by cases h) ?_
            refine WL.makeRow (k:=N) (sz:=1) (by':=1) (zs:=[.int .u8 0]) rfl rfl rfl rfl rfl rfl rfl rfl rfl rfl (by decide) (by omega) (by omega) rfl ?_; intro q6; refine WL.nil ?_
            refine WQ.acted (B := [.row (some ⟨q6, 0, none⟩) N 5 1 (List.replicate N [.int .u8 0])]) (U := .blk r0 (.cells [.slice none 0 0, .slice none 0 0, .slice none 0 0].toArray 92 (0, 0)) :: H) rfl (Mem.le.refl _) zpk ?_
            (refine WE.calm 7 (by decide +kernel) rfl rfl (by decide +kernel) rfl (fun c h => by cases h) (by intro zm zF zle; exact sq_E11_1) ?_)
            refine WE.done (by decide +kernel) ?_
            (try (refine st_E11_1 ?_; intros))
            exact WQ.join ⟨q2, q4, q6, b, rfl, rfl, rfl, rfl⟩ zsb zpk
      · refine Acts.mk rfl rfl (fun c h => by cases h) ?_
        refine WL.makeRow (k:=N) (sz:=1) (by':=1) (zs:=[.int .u8 0]) rfl rfl rfl rfl rfl rfl rfl rfl rfl rfl (by decide) (by omega) (by omega) rfl ?_; intro q6; refine WL.nil ?_
        refine WQ.acted (B := [.row (some ⟨q6, 0, none⟩) N 5 1 (List.replicate N [.int .u8 0])]) (U := .blk r0 (.cells [.slice none 0 0, .slice none 0 0, .slice none 0 0].toArray 92 (0, 0)) :: H) rfl (Mem.le.refl _) zpk ?_
        refine WE.acts [4, 8] (by decide +kernel) (all_cons ?_ (all_cons ?_ (all_nil)))
        · refine Acts.mk rfl rfl (fun c h => by cases h) ?_
          refine WL.makeRow (k:=N) (sz:=1) (by':=1) (zs:=[.bool false]) rfl rfl rfl rfl rfl rfl rfl rfl rfl rfl (by decide) (by omega) (by omega) rfl ?_; intro q4; refine WL.nil ?_
          refine WQ.acted (B := [.row (some ⟨q4, 0, none⟩) N 4 1 (List.replicate N [.bool false])]) (U := .blk r0 (.cells [.slice none 0 0, .slice none 0 0, .slice none 0 0].toArray 92 (0, 0)) :: H) rfl (Mem.le.refl _) zpk ?_
          (refine WE.calm 7 (by decide +kernel) rfl rfl (by decide +kernel) rfl (fun c h => by cases h) (by intro zm zF zle; exact sq_E11_1) ?_)
          refine WE.acts [8] (by decide +kernel) (all_cons ?_ (all_nil))
          · refine Acts.mk rfl rfl (fun c h => by cases h) ?_
            refine WL.alloc (cs := [.slice none 0 0, .slice none 0 0, .slice none 0 0]) rfl rfl rfl ?_; intro b; refine WL.nil ?_
            refine WQ.acted (B := [.blk b (.cells [.slice none 0 0, .slice none 0 0, .slice none 0 0].toArray 92 (0, 0))]) (U := .blk r0 (.cells [.slice none 0 0, .slice none 0 0, .slice none 0 0].toArray 92 (0, 0)) :: H) rfl (Mem.le.refl _) zpk ?_
            refine WE.done (by decide +kernel) ?_
            (try (refine st_E11_1 ?_; intros))
            exact WQ.join ⟨q2, q4, q6, b, rfl, rfl, rfl, rfl⟩ zsb zpk
        · refine Acts.mk rfl rfl (fun c h => by cases h) ?_
          refine WL.alloc (cs := [.slice none 0 0, .slice none 0 0, .slice none 0 0]) rfl rfl rfl ?_; intro b; refine WL.nil ?_
          refine WQ.acted (B := [.blk b (.cells [.slice none 0 0, .slice none 0 0, .slice none 0 0].toArray 92 (0, 0))]) (U := .blk r0 (.cells [.slice none 0 0, .slice none 0 0, .slice none 0 0].toArray 92 (0, 0)) :: H) rfl (Mem.le.refl _) zpk ?_
          refine WE.acts [4] (by decide +kernel) (all_cons ?_ (all_nil))
          · refine Acts.mk rfl rfl (fun c h => by cases h) ?_
            refine WL.makeRow (k:=N) (sz:=1) (by':=1) (zs:=[.bool false]) rfl rfl rfl rfl rfl rfl rfl rfl rfl rfl (by decide) (by omega) (by omega) rfl ?_; intro q4; refine WL.nil ?_
            refine WQ.acted (B := [.row (some ⟨q4, 0, none⟩) N 4 1 (List.replicate N [.bool false])]) (U := .blk r0 (.cells [.slice none 0 0, .slice none 0 0, .slice none 0 0].toArray 92 (0, 0)) :: H) rfl (Mem.le.refl _) zpk ?_
            (refine WE.calm 7 (by decide +kernel) rfl rfl (by decide +kernel) rfl (fun c h => by cases h) (by intro zm zF zle; exact sq_E11_1) ?_)
            refine WE.done (by decide +kernel) ?_
            (try (refine st_E11_1 ?_; intros))
            exact WQ.join ⟨q2, q4, q6, b, rfl, rfl, rfl, rfl⟩ zsb zpk
      · refine Acts.mk rfl rfl (fun c h => by cases h) ?_
        refine WL.alloc (cs := [.slice none 0 0, .slice none 0 0, .slice none 0 0]) rfl rfl rfl ?_; intro b; refine WL.nil ?_
        refine WQ.acted (B := [.blk b (.cells [.slice none 0 0, .slice none 0 0, .slice none 0 0].toArray 92 (0, 0))]) (U := .blk r0 (.cells [.slice none 0 0, .slice none 0 0, .slice none 0 0].toArray 92 (0, 0)) :: H) rfl (Mem.le.refl _) zpk ?_
        refine WE.acts [4, 6] (by decide +kernel) (all_cons ?_ (all_cons ?_ (all_nil)))
        · refine Acts.mk rfl rfl (fun c h => by cases h) ?_
          refine WL.makeRow (k:=N) (sz:=1) (by':=1) (zs:=[.bool false]) rfl rfl rfl rfl rfl rfl rfl rfl rfl rfl (by decide) (by omega) (by omega) rfl ?_; intro q4; refine WL.nil ?_
          refine WQ.acted (B := [.row (some ⟨q4, 0, none⟩) N 4 1 (List.replicate N [.bool false])]) (U := .blk r0 (.cells [.slice none 0 0, .slice none 0 0, .slice none 0 0].toArray 92 (0, 0)) :: H) rfl (Mem.le.refl _) zpk ?_
          refine WE.acts [6] (by decide +kernel) (all_cons ?_ (all_nil))
          · refine Acts.mk rfl rfl (fun c h => by cases h) ?_
            refine WL.makeRow (k:=N) (sz:=1) (by':=1) (zs:=[.int .u8 0]) rfl rfl rfl rfl rfl rfl rfl rfl rfl rfl (by decide) (by omega) (by omega) rfl ?_; intro q6; refine WL.nil ?_
            refine WQ.acted (B := [.row (some ⟨q6, 0, none⟩) N 5 1 (List.replicate N [.int .u8 0])]) (U := .blk r0 (.cells [.slice none 0 0, .slice none 0 0, .slice none 0 0].toArray 92 (0, 0)) :: H) rfl (Mem.le.refl _) zpk ?_
            (refine WE.calm 7 (by decide +kernel) rfl rfl (by decide +kernel) rfl (fun c h => by cases h) (by intro zm zF zle; exact sq_E11_1) ?_)
            refine WE.done (by decide +kernel) ?_
            (try (refine st_E11_1 ?_; intros))
            exact WQ.join ⟨q2, q4, q6, b, rfl, rfl, rfl, rfl⟩ zsb zpk
        · refine Acts.mk rfl rfl (fun c h => by cases h) ?_
          refine WL.makeRow (k:=N) (sz:=1) (by':=1) (zs:=[.int .u8 0]) rfl rfl rfl rfl rfl rfl rfl rfl rfl rfl (by decide) (by omega) (by omega) rfl ?_; intro q6; refine WL.nil ?_
          refine WQ.acted (B := [.row (some ⟨q6, 0, none⟩) N 5 1 (List.replicate N [.int .u8 0])]) (U := .blk r0 (.cells [.slice none 0 0, .slice none 0 0, .slice none 0 0].toArray 92 (0, 0)) :: H) rfl (Mem.le.refl _) zpk ?_
          refine WE.acts [4] (by decide +kernel) (all_cons ?_ (all_nil))
          · refine Acts.mk rfl rfl (fun c h => by cases h) ?_
            refine WL.makeRow (k:=N) (sz:=1) (by':=1) (zs:=[.bool false]) rfl rfl rfl rfl rfl rfl rfl rfl rfl rfl (by decide) (by omega) (by omega) rfl ?_; intro q4; refine WL.nil ?_
            refine WQ.acted (B := [.row (some ⟨q4, 0, none⟩) N 4 1 (List.replicate N [.bool false])]) (U := .blk r0 (.cells [.slice none 0 0, .slice none 0 0, .slice none 0 0].toArray 92 (0, 0)) :: H) rfl (Mem.le.refl _) zpk ?_
            (refine WE.calm 7 (by decide +kernel) rfl rfl (by decide +kernel) rfl (fun c h => by cases h) (by intro zm zF zle; exact sq_E11_1) ?_)
            refine WE.done (by decide +kernel) ?_
            (try (refine st_E11_1 ?_; intros))
            exact WQ.join ⟨q2, q4, q6, b, rfl, rfl, rfl, rfl⟩ zsb zpk
    · refine Acts.mk rfl rfl (fun c h => by cases h) ?_
      refine WL.makeRow (k:=N) (sz:=1) (by':=1) (zs:=[.bool false]) rfl rfl rfl rfl rfl rfl rfl rfl rfl rfl (by decide) (by omega) (by omega) rfl ?_; intro q4; refine WL.nil ?_
      refine WQ.acted (B := [.row (some ⟨q4, 0, none⟩) N 4 1 (List.replicate N [.bool false])]) (U := .blk r0 (.cells [.slice none 0 0, .slice none 0 0, .slice none 0 0].toArray 92 (0, 0)) :: H) rfl (Mem.le.refl _) zpk ?_
      refine WE.acts [2, 6, 8] (by decide +kernel) (all_cons ?_ (all_cons ?_ (all_cons ?_ (all_nil))))
      · refine Acts.mk rfl rfl (fun c h => by cases h) ?_
        refine WL.makeRow (k:=N + 1) (sz:=1) (by':=16) (zs:=[str []]) rfl rfl (by omega) (by omega) rfl rfl rfl rfl rfl rfl (by decide) (by omega) (by omega) rfl ?_; intro q2; refine WL.nil ?_
        refine WQ.acted (B := [.row (some ⟨q2, 0, none⟩) (N + 1) 9 1 (List.replicate (N + 1) [str []])]) (U := .blk r0 (.cells [.slice none 0 0, .slice none 0 0, .slice none 0 0].toArray 92 (0, 0)) :: H) rfl (Mem.le.refl _) zpk ?_
        refine WE.acts [6, 8] (by decide +kernel) (all_cons ?_ (all_cons ?_ (all_nil)))
        · refine Acts.mk rfl rfl (fun c h => by cases h) ?_
          refine WL.makeRow (k:=N) (sz:=1) (by':=1) (zs:=[.int .u8 0]) rfl rfl rfl rfl rfl rfl rfl rfl rfl rfl (by decide) (by omega) (by omega) rfl ?_; intro q6; refine WL.nil ?_
          refine WQ.acted (B := [.row (some ⟨q6, 0, none⟩) N 5 1 (List.replicate N [.int .u8 0])]) (U := .blk r0 (.cells [.slice none 0 0, .slice none 0 0, .slice none 0 0].toArray 92 (0, 0)) :: H) rfl (Mem.le.refl _) zpk ?_
          (refine WE.calm 7 (by decide +kernel) rfl rfl (by decide +kernel) rfl (fun c h => by cases h) (by intro zm zF zle; exact sq_E11_1) ?_)
          refine WE.acts [8] (by decide +kernel) (all_cons ?_ (all_nil))
          · refine Acts.mk rfl rfl (fun c h => by cases h) ?_
            refine WL.alloc (cs := [.slice none 0 0, .slice none 0 0, .slice none 0 0]) rfl rfl rfl ?_; intro b; refine WL.nil ?_
            refine WQ.acted (B := [.blk b (.cells [.slice none 0 0, .slice none 0 0, .slice none 0 0].toArray 92 (0, 0))]) (U := .blk r0 (.cells [.slice none 0 0, .slice none 0 0, .slice none 0 0].toArray 92 (0, 0)) :: H) rfl (Mem.le.refl _) zpk ?_
            refine WE.done (by decide +kernel) ?_
            (try (refine st_E11_1 ?_; intros))
            exact WQ.join ⟨q2, q4, q6, b, rfl, rfl, rfl, rfl⟩ zsb zpk
        · refine Acts.mk rfl rfl (fun c h => by cases h) ?_
          refine WL.alloc (cs := [.slice none 0 0, .slice none 0 0, .slice none 0 0]) rfl rfl rfl ?_; intro b; refine WL.nil ?_
          refine WQ.acted (B := [.blk b (.cells [.slice none 0 0, .slice none 0 0, .slice none 0 0].toArray 92 (0, 0))]) (U := .blk r0 (.cells [.slice none 0 0, .slice none 0 0, .slice none 0 0].toArray 92 (0, 0)) :: H) rfl (Mem.le.refl _) zpk ?_
          refine WE.acts [6] (by decide +kernel) (all_cons ?_ (all_nil))
          · refine Acts.mk rfl rfl (fun c h => by cases h) ?_
            refine WL.makeRow (k:=N) (sz:=1) (by':=1) (zs:=[.int .u8 0]) rfl rfl rfl rfl rfl rfl rfl rfl rfl rfl (by decide) (by omega) (by omega) rfl ?_; intro q6; refine WL.nil ?_
            refine WQ.acted (B := [.row (some ⟨q6, 0, none⟩) N 5 1 (List.replicate N [.int .u8 0])]) (U := .blk r0 (.cells [.slice none 0 0, .slice none 0 0, .slice none 0 0].toArray 92 (0, 0)) :: H) rfl (Mem.le.refl _) zpk ?_
            (refine WE.calm 7 (by decide +kernel) rfl rfl (by decide +kernel) rfl (fun c h => by cases h) (by intro zm zF zle; exact sq_E11_1) ?_)
            refine WE.done (by decide +kernel) ?_
            (try (refine st_E11_1 ?_; intros))
            exact WQ.join ⟨q2, q4, q6, b, rfl, rfl, rfl, rfl⟩ zsb zpk
      · refine Acts.mk rfl rfl (fun c h => by cases h) ?_
        refine WL.makeRow (k:=N) (sz:=1) (by':=1) (zs:=[.int .u8 0]) rfl rfl rfl rfl rfl rfl rfl rfl rfl rfl (by decide) (by omega) (by omega) rfl ?_; intro q6; refine WL.nil ?_
        refine WQ.acted (B := [.row (some ⟨q6, 0, none⟩) N 5 1 (List.replicate N [.int .u8 0])]) (U := .blk r0 (.cells [.slice none 0 0, .slice none 0 0, .slice none 0 0].toArray 92 (0, 0)) :: H) rfl (Mem.le.refl _) zpk ?_
        refine WE.acts [2, 8] (by decide +kernel) (all_cons ?_ (all_cons ?_ (all_nil)))
        · refine Acts.mk rfl rfl (fun c h => by cases h) ?_
          refine WL.makeRow (k:=N + 1) (sz:=1) (by':=16) (zs:=[str []]) rfl rfl (by omega) (by omega) rfl rfl rfl rfl rfl rfl (by decide) (by omega) (by omega) rfl ?_; intro q2; refine WL.nil ?_
          refine WQ.acted (B := [.row (some ⟨q2, 0, none⟩) (N + 1) 9 1 (List.replicate (N + 1) [str []])]) (U := .blk r0 (.cells [.slice none 0 0, .slice none 0 0, .slice none 0 0].toArray 92 (0, 0)) :: H) rfl (Mem.le.refl _) zpk ?_
          (refine WE.calm 7 (by decide +kernel) rfl rfl (by decide +kernel) rfl (fun c h => by cases h) (by intro zm zF zle; exact sq_E11_1) ?_)
          refine WE.acts [8] (by decide +kernel) (all_cons ?_ (all_nil))
          · refine Acts.mk rfl rfl (fun c h => by cases h) ?_
            refine WL.alloc (cs := [.slice none 0 0, .slice none 0 0, .slice none 0 0]) rfl rfl rfl ?_; intro b; refine WL.nil ?_
            refine WQ.acted (B := [.blk b (.cells [.slice none 0 0, .slice none 0 0, .slice none 0 0].toArray 92 (0, 0))]) (U := .blk r0 (.cells [.slice none 0 0, .slice none 0 0, .slice none 0 0].toArray 92 (0, 0)) :: H) rfl (Mem.le.refl _) zpk ?_
            refine WE.done (by decide +kernel) ?_
            (try (refine st_E11_1 ?_; intros))
            exact WQ.join ⟨q2, q4, q6, b, rfl, rfl, rfl, rfl⟩ zsb zpk
        · refine Acts.mk rfl rfl (fun c h => by cases h) ?_
          refine WL.alloc (cs := [.slice none 0 0, .slice none 0 0, .slice none 0 0]) rfl rfl rfl ?_; intro b; refine WL.nil ?_
          refine WQ.acted (B := [.blk b (.cells [.slice none 0 0, .slice none 0 0, .slice none 0 0].toArray 92 (0, 0))]) (U := .blk r0 (.cells [.slice none 0 0, .slice none 0 0, .slice none 0 0].toArray 92 (0, 0)) :: H) rfl (Mem.le.refl _) zpk ?_
          refine WE.acts [2] (by decide +kernel) (all_cons ?_ (all_nil))
          · refine Acts.mk rfl rfl (fun c h => by cases h) ?_
            refine WL.makeRow (k:=N + 1) (sz:=1) (by':=16) (zs:=[str []]) rfl rfl (by omega) (by omega) rfl rfl rfl rfl rfl rfl (by decide) (by omega) (by omega) rfl ?_; intro q2; refine WL.nil ?_
            refine WQ.acted (B := [.row (some ⟨q2, 0, none⟩) (N + 1) 9 1 (List.replicate (N + 1) [str []])]) (U := .blk r0 (.cells [.slice none 0 0, .slice none 0 0, .slice none 0 0].toArray 92 (0, 0)) :: H) rfl (Mem.le.refl _) zpk ?_
            (refine WE.calm 7 (by decide +kernel) rfl rfl (by decide +kernel) rfl (fun c h => by cases h) (by intro zm zF zle; exact sq_E11_1) ?_)
            refine WE.done (by decide +kernel) ?_
            (try (refine st_E11_1 ?_; intros))
            exact WQ.join ⟨q2, q4, q6, b, rfl, rfl, rfl, rfl⟩ zsb zpk
      · refine Acts.mk rfl rfl (fun c h => by cases h) ?_
        refine WL.alloc (cs := [.slice none 0 0, .slice none 0 0, .slice none 0 0]) rfl rfl rfl ?_; intro b; refine WL.nil ?_
        refine WQ.acted (B := [.blk b (.cells [.slice none 0 0, .slice none 0 0, .slice none 0 0].toArray 92 (0, 0))]) (U := .blk r0 (.cells [.slice none 0 0, .slice none 0 0, .slice none 0 0].toArray 92 (0, 0)) :: H) rfl (Mem.le.refl _) zpk ?_
        refine WE.acts [2, 6] (by decide +kernel) (all_cons ?_ (all_cons ?_ (all_nil)))
        · refine Acts.mk rfl rfl (fun c h => by cases h) ?_
          refine WL.makeRow (k:=N + 1) (sz:=1) (by':=16) (zs:=[str []]) rfl rfl (by omega) (by omega) rfl rfl rfl rfl rfl rfl (by decide) (by omega) (by omega) rfl ?_; intro q2; refine WL.nil ?_
          refine WQ.acted (B := [.row (some ⟨q2, 0, none⟩) (N + 1) 9 1 (List.replicate (N + 1) [str []])]) (U := .blk r0 (.cells [.slice none 0 0, .slice none 0 0, .slice none 0 0].toArray 92 (0, 0)) :: H) rfl (Mem.le.refl _) zpk ?_
          refine WE.acts [6] (by decide +kernel) (all_cons ?_ (all_nil))
          · refine Acts.mk rfl rfl (fun c h => by cases h) ?_
            refine WL.makeRow (k:=N) (sz:=1) (by':=1) (zs:=[.int .u8 0]) rfl rfl rfl rfl rfl rfl rfl rfl rfl rfl (by decide) (by omega) (by omega) rfl ?_; intro q6; refine WL.nil ?_
            refine WQ.acted (B := [.row (some ⟨q6, 0, none⟩) N 5 1 (List.replicate N [.int .u8 0])]) (U := .blk r0 (.cells [.slice none 0 0, .slice none 0 0, .slice none 0 0].toArray 92 (0, 0)) :: H) rfl (Mem.le.refl _) zpk ?_
            (refine WE.calm 7 (by decide +kernel) rfl rfl (by decide +kernel) rfl (fun c h => by cases h) (by intro zm zF zle; exact sq_E11_1) ?_)
            refine WE.done (by decide +kernel) ?_
            (try (refine st_E11_1 ?_; intros))
            exact WQ.join ⟨q2, q4, q6, b, rfl, rfl, rfl, rfl⟩ zsb zpk
        · refine Acts.mk rfl rfl (fun c h => by cases h) ?_
          refine WL.makeRow (k:=N) (sz:=1) (by':=1) (zs:=[.int .u8 0]) rfl rfl rfl rfl rfl rfl rfl rfl rfl rfl (by decide) (by omega) (by omega) rfl ?_; intro q6; refine WL.nil ?_
          refine WQ.acted (B := [.row (some ⟨q6, 0, none⟩) N 5 1 (List.replicate N [.int .u8 0])]) (U := .blk r0 (.cells [.slice none 0 0, .slice none 0 0, .slice none 0 0].toArray 92 (0, 0)) :: H) rfl (Mem.le.refl _) zpk ?_
          refine WE.acts [2] (by decide +kernel) (all_cons ?_ (all_nil))
          · refine Acts.mk rfl rfl (fun c h => by cases h) ?_
            refine WL.makeRow (k:=N + 1) (sz:=1) (by':=16) (zs:=[str []]) rfl rfl (by omega) (by omega) rfl rfl rfl rfl rfl rfl (by decide) (by omega) (by omega) rfl ?_; intro q2; refine WL.nil ?_
            refine WQ.acted (B := [.row (some ⟨q2, 0, none⟩) (N + 1) 9 1 (List.replicate (N + 1) [str []])]) (U := .blk r0 (.cells [.slice none 0 0, .slice none 0 0, .slice none 0 0].toArray 92 (0, 0)) :: H) rfl (Mem.le.refl _) zpk ?_
            (refine WE.calm 7 (by decide +kernel) rfl rfl (by decide +kernel) rfl (fun c h => by cases h) (by intro zm zF zle; exact sq_E11_1) ?_)
            refine WE.done (by decide +kernel) ?_
            (try (refine st_E11_1 ?_; intros))
            exact WQ.join ⟨q2, q4, q6, b, rfl, rfl, rfl, rfl⟩ zsb zpk
    · refine Acts.mk rfl rfl (fun c h => by cases h) ?_
      refine WL.makeRow (k:=N) (sz:=1) (by':=1) (zs:=[.int .u8 0]) rfl rfl rfl rfl rfl rfl rfl rfl rfl rfl (by decide) (by omega) (by omega) rfl ?_; intro q6; refine WL.nil ?_
      refine WQ.acted (B := [.row (some ⟨q6, 0, none⟩) N 5 1 (List.replicate N [.int .u8 0])]) (U := .blk r0 (.cells [.slice none 0 0, .slice none 0 0, .slice none 0 0].toArray 92 (0, 0)) :: H) rfl (Mem.le.refl _) zpk ?_
      refine WE.acts [2, 4, 8] (by decide +kernel) (all_cons ?_ (all_cons ?_ (all_cons ?_ (all_nil))))
      · refine Acts.mk rfl rfl (fun c h => by cases h) ?_
        refine WL.makeRow (k:=N + 1) (sz:=1) (by':=16) (zs:=[str []]) rfl rfl (by omega) (by omega) rfl rfl rfl rfl rfl rfl (by decide) (by omega) (by omega) rfl ?_; intro q2; refine WL.nil ?_
        refine WQ.acted (B := [.row (some ⟨q2, 0, none⟩) (N + 1) 9 1 (List.replicate (N + 1) [str []])]) (U := .blk r0 (.cells [.slice none 0 0, .slice none 0 0, .slice none 0 0].toArray 92 (0, 0)) :: H) rfl (Mem.le.refl _) zpk ?_
        refine WE.acts [4, 8] (by decide +kernel) (all_cons ?_ (all_cons ?_ (all_nil)))
        · refine Acts.mk rfl rfl (fun c h => by cases h) ?_
          refine WL.makeRow (k:=N) (sz:=1) (by':=1) (zs:=[.bool false]) rfl rfl rfl rfl rfl rfl rfl rfl rfl rfl (by decide) (by omega) (by omega) rfl ?_; intro q4; refine WL.nil ?_
          refine WQ.acted (B := [.row (some ⟨q4, 0, none⟩) N 4 1 (List.replicate N [.bool false])]) (U := .blk r0 (.cells [.slice none 0 0, .slice none 0 0, .slice none 0 0].toArray 92 (0, 0)) :: H) rfl (Mem.le.refl _) zpk ?_
          (refine WE.calm 7 (by decide +kernel) rfl rfl (by decide +kernel) rfl (fun c h => by cases h) (by intro zm zF zle; exact sq_E11_1) ?_)
          refine WE.acts [8] (by decide +kernel) (all_cons ?_ (all_nil))
          · refine Acts.mk rfl rfl (fun c h => by cases h) ?_
            refine WL.alloc (cs := [.slice none 0 0, .slice none 0 0, .slice none 0 0]) rfl rfl rfl ?_; intro b; refine WL.nil ?_
            refine WQ.acted (B := [.blk b (.cells [.slice none 0 0, .slice none 0 0, .slice none 0 0].toArray 92 (0, 0))]) (U := .blk r0 (.cells [.slice none 0 0, .slice none 0 0, .slice none 0 0].toArray 92 (0, 0)) :: H) rfl (Mem.le.refl _) zpk ?_
            refine WE.done (by decide +kernel) ?_
            (try (refine st_E11_1 ?_; intros))
            exact WQ.join ⟨q2, q4, q6, b, rfl, rfl, rfl, rfl⟩ zsb zpk
        · refine Acts.mk rfl rfl (fun c h => by cases h) ?_
          refine WL.alloc (cs := [.slice none 0 0, .slice none 0 0, .slice none 0 0]) rfl rfl rfl ?_; intro b; refine WL.nil ?_
          refine WQ.acted (B := [.blk b (.cells [.slice none 0 0, .slice none 0 0, .slice none 0 0].toArray 92 (0, 0))]) (U := .blk r0 (.cells [.slice none 0 0, .slice none 0 0, .slice none 0 0].toArray 92 (0, 0)) :: H) rfl (Mem.le.refl _) zpk ?_
          refine WE.acts [4] (by decide +kernel) (all_cons ?_ (all_nil))
          · refine Acts.mk rfl rfl (fun c h => by cases h) ?_
            refine WL.makeRow (k:=N) (sz:=1) (by':=1) (zs:=[.bool false]) rfl rfl rfl rfl rfl rfl rfl rfl rfl rfl (by decide) (by omega) (by omega) rfl ?_; intro q4; refine WL.nil ?_
            refine WQ.acted (B := [.row (some ⟨q4, 0, none⟩) N 4 1 (List.replicate N [.bool false])]) (U := .blk r0 (.cells [.slice none 0 0, .slice none 0 0, .slice none 0 0].toArray 92 (0, 0)) :: H) rfl (Mem.le.refl _) zpk ?_
            (refine WE.calm 7 (by decide +kernel) rfl rfl (by decide +kernel) rfl (fun c h => by cases h) (by intro zm zF zle; exact sq_E11_1) ?_)
            refine WE.done (by decide +kernel) ?_
            (try (refine st_E11_1 ?_; intros))
            exact WQ.join ⟨q2, q4, q6, b, rfl, rfl, rfl, rfl⟩ zsb zpk
      · refine Acts.mk rfl rfl (fun c h => by cases h) ?_
        refine WL.makeRow (k:=N) (sz:=1) (by':=1) (zs:=[.bool false]) rfl rfl rfl rfl rfl rfl rfl rfl rfl rfl (by decide) (by omega) (by omega) rfl ?_; intro q4; refine WL.nil ?_
        refine WQ.acted (B := [.row (some ⟨q4, 0, none⟩) N 4 1 (List.replicate N [.bool false])]) (U := .blk r0 (.cells [.slice none 0 0, .slice none 0 0, .slice none 0 0].toArray 92 (0, 0)) :: H) rfl (Mem.le.refl _) zpk ?_
        refine WE.acts [2, 8] (by decide +kernel) (all_cons ?_ (all_cons ?_ (all_nil)))
        · refine Acts.mk rfl rfl (fun c h => by cases h) ?_
          refine WL.makeRow (k:=N + 1) (sz:=1) (by':=16) (zs:=[str []]) rfl rfl (by omega) (by omega) rfl rfl rfl rfl rfl rfl (by decide) (by omega) (by omega) rfl ?_; intro q2; refine WL.nil ?_
          refine WQ.acted (B := [.row (some ⟨q2, 0, none⟩) (N + 1) 9 1 (List.replicate (N + 1) [str []])]) (U := .blk r0 (.cells [.slice none 0 0, .slice none 0 0, .slice none 0 0].toArray 92 (0, 0)) :: H) rfl (Mem.le.refl _) zpk ?_
          (refine WE.calm 7 (by decide +kernel) rfl rfl (by decide +kernel) rfl (fun c h => by cases h) (by intro zm zF zle; exact sq_E11_1) ?_)
          refine WE.acts [8] (by decide +kernel) (all_cons ?_ (all_nil))
          · refine Acts.mk rfl rfl (fun c h => by cases h) ?_
            refine WL.alloc (cs := [.slice none 0 0, .slice none 0 0, .slice none 0 0]) rfl rfl rfl ?_; intro b; refine WL.nil ?_
            refine WQ.acted (B := [.blk b (.cells [.slice none 0 0, .slice none 0 0, .slice none 0 0].toArray 92 (0, 0))]) (U := .blk r0 (.cells [.slice none 0 0, .slice none 0 0, .slice none 0 0].toArray 92 (0, 0)) :: H) rfl (Mem.le.refl _) zpk ?_
            refine WE.done (by decide +kernel) ?_
            (try (refine st_E11_1 ?_; intros))
            exact WQ.join ⟨q2, q4, q6, b, rfl, rfl, rfl, rfl⟩ zsb zpk
        · refine Acts.mk rfl rfl (fun c h => by cases h) ?_
          refine WL.alloc (cs := [.slice none 0 0, .slice none 0 0, .slice none 0 0]) rfl rfl rfl ?_; intro b; refine WL.nil ?_
          refine WQ.acted (B := [.blk b (.cells [.slice none 0 0, .slice none 0 0, .slice none 0 0].toArray 92 (0, 0))]) (U := .blk r0 (.cells [.slice none 0 0, .slice none 0 0, .slice none 0 0].toArray 92 (0, 0)) :: H) rfl (Mem.le.refl _) zpk ?_
          refine WE.acts [2] (by decide +kernel) (all_cons ?_ (all_nil))
          · refine Acts.mk rfl rfl (fun c h => by cases h) ?_
            refine WL.makeRow (k:=N + 1) (sz:=1) (by':=16) (zs:=[str []]) rfl rfl (by omega) (by omega) rfl rfl rfl rfl rfl rfl (by decide) (by omega) (by omega) rfl ?_; intro q2; refine WL.nil ?_
            refine WQ.acted (B := [.row (some ⟨q2, 0, none⟩) (N + 1) 9 1 (List.replicate (N + 1) [str []])]) (U := .blk r0 (.cells [.slice none 0 0, .slice none 0 0, .slice none 0 0].toArray 92 (0, 0)) :: H) rfl (Mem.le.refl _) zpk ?_
            (refine WE.calm 7 (by decide +kernel) rfl rfl (by decide +kernel) rfl (fun c h => by cases h) (by intro zm zF zle; exact sq_E11_1) ?_)
            refine WE.done (by decide +kernel) ?_
            (try (refine st_E11_1 ?_; intros))
            exact WQ.join ⟨q2, q4, q6, b, rfl, rfl, rfl, rfl⟩ zsb zpk
      · refine Acts.mk rfl rfl (fun c h => by cases h) ?_
        refine WL.alloc (cs := [.slice none 0 0, .slice none 0 0, .slice none 0 0]) rfl rfl rfl ?_; intro b; refine WL.nil ?_
        refine WQ.acted (B := [.blk b (.cells [.slice none 0 0, .slice none 0 0, .slice none 0 0].toArray 92 (0, 0))]) (U := .blk r0 (.cells [.slice none 0 0, .slice none 0 0, .slice none 0 0].toArray 92 (0, 0)) :: H) rfl (Mem.le.refl _) zpk ?_
        refine WE.acts [2, 4] (by decide +kernel) (all_cons ?_ (all_cons ?_ (all_nil)))
        · refine Acts.mk rfl rfl (fun c h => by cases h) ?_
          refine WL.makeRow (k:=N + 1) (sz:=1) (by':=16) (zs:=[str []]) rfl rfl (by omega) (by omega) rfl rfl rfl rfl rfl rfl (by decide) (by omega) (by omega) rfl ?_; intro q2; refine WL.nil ?_
          refine WQ.acted (B := [.row (some ⟨q2, 0, none⟩) (N + 1) 9 1 (List.replicate (N + 1) [str []])]) (U := .blk r0 (.cells [.slice none 0 0, .slice none 0 0, .slice none 0 0].toArray 92 (0, 0)) :: H) rfl (Mem.le.refl _) zpk ?_
          refine WE.acts [4] (by decide +kernel) (all_cons ?_ (all_nil))
          · refine Acts.mk rfl rfl (fun c h => by cases h) ?_
            refine WL.makeRow (k:=N) (sz:=1) (by':=1) (zs:=[.bool false]) rfl rfl rfl rfl rfl rfl rfl rfl rfl rfl (by decide) (by omega) (by omega) rfl ?_; intro q4; refine WL.nil ?_
            refine WQ.acted (B := [.row (some ⟨q4, 0, none⟩) N 4 1 (List.replicate N [.bool false])]) (U := .blk r0 (.cells [.slice none 0 0, .slice none 0 0, .slice none 0 0].toArray 92 (0, 0)) :: H) rfl (Mem.le.refl _) zpk ?_
            (refine WE.calm 7 (by decide +kernel) rfl rfl (by decide +kernel) rfl (fun c h => by cases h) (by intro zm zF zle; exact sq_E11_1) ?_)
            refine WE.done (by decide +kernel) ?_
            (try (refine st_E11_1 ?_; intros))
            exact WQ.join ⟨q2, q4, q6, b, rfl, rfl, rfl, rfl⟩ zsb zpk
        · refine Acts.mk rfl rfl (fun c h => by cases h) ?_
          refine WL.makeRow (k:=N) (sz:=1) (by':=1) (zs:=[.bool false]) rfl rfl rfl rfl rfl rfl rfl rfl rfl rfl (by decide) (by omega) (by omega) rfl ?_; intro q4; refine WL.nil ?_
          refine WQ.acted (B := [.row (some ⟨q4, 0, none⟩) N 4 1 (List.replicate N [.bool false])]) (U := .blk r0 (.cells [.slice none 0 0, .slice none 0 0, .slice none 0 0].toArray 92 (0, 0)) :: H) rfl (Mem.le.refl _) zpk ?_
          refine WE.acts [2] (by decide +kernel) (all_cons ?_ (all_nil))
          · refine Acts.mk rfl rfl (fun c h => by cases h) ?_
            refine WL.makeRow (k:=N + 1) (sz:=1) (by':=16) (zs:=[str []]) rfl rfl (by omega) (by omega) rfl rfl rfl rfl rfl rfl (by decide) (by omega) (by omega) rfl ?_; intro q2; refine WL.nil ?_
            refine WQ.acted (B := [.row (some ⟨q2, 0, none⟩) (N + 1) 9 1 (List.replicate (N + 1) [str []])]) (U := .blk r0 (.cells [.slice none 0 0, .slice none 0 0, .slice none 0 0].toArray 92 (0, 0)) :: H) rfl (Mem.le.refl _) zpk ?_
            (refine WE.calm 7 (by decide +kernel) rfl rfl (by decide +kernel) rfl (fun c h => by cases h) (by intro zm zF zle; exact sq_E11_1) ?_)
            refine WE.done (by decide +kernel) ?_
            (try (refine st_E11_1 ?_; intros))
            exact WQ.join ⟨q2, q4, q6, b, rfl, rfl, rfl, rfl⟩ zsb zpk
    · refine Acts.mk rfl rfl (fun c h => by cases h) ?_
      refine WL.alloc (cs := [.slice none 0 0, .slice none 0 0, .slice none 0 0]) rfl rfl rfl ?_; intro b; refine WL.nil ?_
      refine WQ.acted (B := [.blk b (.cells [.slice none 0 0, .slice none 0 0, .slice none 0 0].toArray 92 (0, 0))]) (U := .blk r0 (.cells [.slice none 0 0, .slice none 0 0, .slice none 0 0].toArray 92 (0, 0)) :: H) rfl (Mem.le.refl _) zpk ?_
      refine WE.acts [2, 4, 6] (by decide +kernel) (all_cons ?_ (all_cons ?_ (all_cons ?_ (all_nil))))
      · refine Acts.mk rfl rfl (fun c h => by cases h) ?_
        refine WL.makeRow (k:=N + 1) (sz:=1) (by':=16) (zs:=[str []]) rfl rfl (by omega) (by omega) rfl rfl rfl rfl rfl rfl (by decide) (by omega) (by omega) rfl ?_; intro q2; refine WL.nil ?_
        refine WQ.acted (B := [.row (some ⟨q2, 0, none⟩) (N + 1) 9 1 (List.replicate (N + 1) [str []])]) (U := .blk r0 (.cells [.slice none 0 0, .slice none 0 0, .slice none 0 0].toArray 92 (0, 0)) :: H) rfl (Mem.le.refl _) zpk ?_
        refine WE.acts [4, 6] (by decide +kernel) (all_cons ?_ (all_cons ?_ (all_nil)))
        · refine Acts.mk rfl rfl (fun c h => by cases h) ?_
          refine WL.makeRow (k:=N) (sz:=1) (by':=1) (zs:=[.bool false]) rfl rfl rfl rfl rfl rfl rfl rfl rfl rfl (by decide) (by omega) (by omega) rfl ?_; intro q4; refine WL.nil ?_
          refine WQ.acted (B := [.row (some ⟨q4, 0, none⟩) N 4 1 (List.replicate N [.bool false])]) (U := .blk r0 (.cells [.slice none 0 0, .slice none 0 0, .slice none 0 0].toArray 92 (0, 0)) :: H) rfl (Mem.le.refl _) zpk ?_
          refine WE.acts [6] (by decide +kernel) (all_cons ?_ (all_nil))
          · refine Acts.mk rfl rfl (fun c h => by cases h) ?_
            refine WL.makeRow (k:=N) (sz:=1) (by':=1) (zs:=[.int .u8 0]) rfl rfl rfl rfl rfl rfl rfl rfl rfl rfl (by decide) (by omega) (by omega) rfl ?_; intro q6; refine WL.nil ?_
            refine WQ.acted (B := [.row (some ⟨q6, 0, none⟩) N 5 1 (List.replicate N [.int .u8 0])]) (U := .blk r0 (.cells [.slice none 0 0, .slice none 0 0, .slice none 0 0].toArray 92 (0, 0)) :: H) rfl (Mem.le.refl _) zpk ?_
            (refine WE.calm 7 (by decide +kernel) rfl rfl (by decide +kernel) rfl (fun c h => by cases h) (by intro zm zF zle; exact sq_E11_1) ?_)
            refine WE.done (by decide +kernel) ?_
            (try (refine st_E11_1 ?_; intros))
            exact WQ.join ⟨q2, q4, q6, b, rfl, rfl, rfl, rfl⟩ zsb zpk
        · refine Acts.mk rfl rfl (fun c h => by cases h) ?_
          refine WL.makeRow (k:=N) (sz:=1) (by':=1) (zs:=[.int .u8 0]) rfl rfl rfl rfl rfl rfl rfl rfl rfl rfl (by decide) (by omega) (by omega) rfl ?_; intro q6; refine WL.nil ?_
          refine WQ.acted (B := [.row (some ⟨q6, 0, none⟩) N 5 1 (List.replicate N [.int .u8 0])]) (U := .blk r0 (.cells [.slice none 0 0, .slice none 0 0, .slice none 0 0].toArray 92 (0, 0)) :: H) rfl (Mem.le.refl _) zpk ?_
          refine WE.acts [4] (by decide +kernel) (all_cons ?_ (all_nil))
          · refine Acts.mk rfl rfl (fun c h => by cases h) ?_
            refine WL.makeRow (k:=N) (sz:=1) (by':=1) (zs:=[.bool false]) rfl rfl rfl rfl rfl rfl rfl rfl rfl rfl (by decide) (by omega) (by omega) rfl ?_; intro q4; refine WL.nil ?_
            refine WQ.acted (B := [.row (some ⟨q4, 0, none⟩) N 4 1 (List.replicate N [.bool false])]) (U := .blk r0 (.cells [.slice none 0 0, .slice none 0 0, .slice none 0 0].toArray 92 (0, 0)) :: H) rfl (Mem.le.refl _) zpk ?_
            (refine WE.calm 7 (by decide +kernel) rfl rfl (by decide +kernel) rfl (fun c h => by cases h) (by intro zm zF zle; exact sq_E11_1) ?_)
            refine WE.done (by decide +kernel) ?_
            (try (refine st_E11_1 ?_; intros))
            exact WQ.join ⟨q2, q4, q6, b, rfl, rfl, rfl, rfl⟩ zsb zpk
      · refine Acts.mk rfl rfl (fun c h => by cases h) ?_
        refine WL.makeRow (k:=N) (sz:=1) (by':=1) (zs:=[.bool false]) rfl rfl rfl rfl rfl rfl rfl rfl rfl rfl (by decide) (by omega) (by omega) rfl ?_; intro q4; refine WL.nil ?_
        refine WQ.acted (B := [.row (some ⟨q4, 0, none⟩) N 4 1 (List.replicate N [.bool false])]) (U := .blk r0 (.cells [.slice none 0 0, .slice none 0 0, .slice none 0 0].toArray 92 (0, 0)) :: H) rfl (Mem.le.refl _) zpk ?_
        refine WE.acts [2, 6] (by decide +kernel) (all_cons ?_ (all_cons ?_ (all_nil)))
        · refine Acts.mk rfl rfl (fun c h => by cases h) ?_
          refine WL.makeRow (k:=N + 1) (sz:=1) (by':=16) (zs:=[str []]) rfl rfl (by omega) (by omega) rfl rfl rfl rfl rfl rfl (by decide) (by omega) (by omega) rfl ?_; intro q2; refine WL.nil ?_
          refine WQ.acted (B := [.row (some ⟨q2, 0, none⟩) (N + 1) 9 1 (List.replicate (N + 1) [str []])]) (U := .blk r0 (.cells [.slice none 0 0, .slice none 0 0, .slice none 0 0].toArray 92 (0, 0)) :: H) rfl (Mem.le.refl _) zpk ?_
          refine WE.acts [6] (by decide +kernel) (all_cons ?_ (all_nil))
          · refine Acts.mk rfl rfl (fun c h => by cases h) ?_
            refine WL.makeRow (k:=N) (sz:=1) (by':=1) (zs:=[.int .u8 0]) rfl rfl rfl rfl rfl rfl rfl rfl rfl rfl (by decide) (by omega) (by omega) rfl ?_; intro q6; refine WL.nil ?_
            refine WQ.acted (B := [.row (some ⟨q6, 0, none⟩) N 5 1 (List.replicate N [.int .u8 0])]) (U := .blk r0 (.cells [.slice none 0 0, .slice none 0 0, .slice none 0 0].toArray 92 (0, 0)) :: H) rfl (Mem.le.refl _) zpk ?_
            (refine WE.calm 7 (by decide +kernel) rfl rfl (by decide +kernel) rfl (fun c h => by cases h) (by intro zm zF zle; exact sq_E11_1) ?_)
            refine WE.done (by decide +kernel) ?_
            (try (refine st_E11_1 ?_; intros))
            exact WQ.join ⟨q2, q4, q6, b, rfl, rfl, rfl, rfl⟩ zsb zpk
        · refine Acts.mk rfl rfl (fun c h => by cases h) ?_
          refine WL.makeRow (k:=N) (sz:=1) (by':=1) (zs:=[.int .u8 0]) rfl rfl rfl rfl rfl rfl rfl rfl rfl rfl (by decide) (by omega) (by omega) rfl ?_; intro q6; refine WL.nil ?_
          refine WQ.acted (B := [.row (some ⟨q6, 0, none⟩) N 5 1 (List.replicate N [.int .u8 0])]) (U := .blk r0 (.cells [.slice none 0 0, .slice none 0 0, .slice none 0 0].toArray 92 (0, 0)) :: H) rfl (Mem.le.refl _) zpk ?_
          refine WE.acts [2] (by decide +kernel) (all_cons ?_ (all_nil))
          · refine Acts.mk rfl rfl (fun c h => by cases h) ?_
            refine WL.makeRow (k:=N + 1) (sz:=1) (by':=16) (zs:=[str []]) rfl rfl (by omega) (by omega) rfl rfl rfl rfl rfl rfl (by decide) (by omega) (by omega) rfl ?_; intro q2; refine WL.nil ?_
            refine WQ.acted (B := [.row (some ⟨q2, 0, none⟩) (N + 1) 9 1 (List.replicate (N + 1) [str []])]) (U := .blk r0 (.cells [.slice none 0 0, .slice none 0 0, .slice none 0 0].toArray 92 (0, 0)) :: H) rfl (Mem.le.refl _) zpk ?_
            (refine WE.calm 7 (by decide +kernel) rfl rfl (by decide +kernel) rfl (fun c h => by cases h) (by intro zm zF zle; exact sq_E11_1) ?_)
            refine WE.done (by decide +kernel) ?_
            (try (refine st_E11_1 ?_; intros))
            exact WQ.join ⟨q2, q4, q6, b, rfl, rfl, rfl, rfl⟩ zsb zpk
      · refine Acts.mk rfl rfl (fun c h => by cases h) ?_
        refine WL.makeRow (k:=N) (sz:=1) (by':=1) (zs:=[.int .u8 0]) rfl rfl rfl rfl rfl rfl rfl rfl rfl rfl (by decide) (by omega) (by omega) rfl ?_; intro q6; refine WL.nil ?_
        refine WQ.acted (B := [.row (some ⟨q6, 0, none⟩) N 5 1 (List.replicate N [.int .u8 0])]) (U := .blk r0 (.cells [.slice none 0 0, .slice none 0 0, .slice none 0 0].toArray 92 (0, 0)) :: H) rfl (Mem.le.refl _) zpk ?_
        refine WE.acts [2, 4] (by decide +kernel) (all_cons ?_ (all_cons ?_ (all_nil)))
        · refine Acts.mk rfl rfl (fun c h => by cases h) ?_
          refine WL.makeRow (k:=N + 1) (sz:=1) (by':=16) (zs:=[str []]) rfl rfl (by omega) (by omega) rfl rfl rfl rfl rfl rfl (by decide) (by omega) (by omega) rfl ?_; intro q2; refine WL.nil ?_
          refine WQ.acted (B := [.row (some ⟨q2, 0, none⟩) (N + 1) 9 1 (List.replicate (N + 1) [str []])]) (U := .blk r0 (.cells [.slice none 0 0, .slice none 0 0, .slice none 0 0].toArray 92 (0, 0)) :: H) rfl (Mem.le.refl _) zpk ?_
          refine WE.acts [4] (by decide +kernel) (all_cons ?_ (all_nil))
          · refine Acts.mk rfl rfl (fun c h => by cases h) ?_
            refine WL.makeRow (k:=N) (sz:=1) (by':=1) (zs:=[.bool false]) rfl rfl rfl rfl rfl rfl rfl rfl rfl rfl (by decide) (by omega) (by omega) rfl ?_; intro q4; refine WL.nil ?_
            refine WQ.acted (B := [.row (some ⟨q4, 0, none⟩) N 4 1 (List.replicate N [.bool false])]) (U := .blk r0 (.cells [.slice none 0 0, .slice none 0 0, .slice none 0 0].toArray 92 (0, 0)) :: H) rfl (Mem.le.refl _) zpk ?_
            (refine WE.calm 7 (by decide +kernel) rfl rfl (by decide +kernel) rfl (fun c h => by cases h) (by intro zm zF zle; exact sq_E11_1) ?_)
            refine WE.done (by decide +kernel) ?_
            (try (refine st_E11_1 ?_; intros))
            exact WQ.join ⟨q2, q4, q6, b, rfl, rfl, rfl, rfl⟩ zsb zpk
        · refine Acts.mk rfl rfl (fun c h => by cases h) ?_
          refine WL.makeRow (k:=N) (sz:=1) (by':=1) (zs:=[.bool false]) rfl rfl rfl rfl rfl rfl rfl rfl rfl rfl (by decide) (by omega) (by omega) rfl ?_; intro q4; refine WL.nil ?_
          refine WQ.acted (B := [.row (some ⟨q4, 0, none⟩) N 4 1 (List.replicate N [.bool false])]) (U := .blk r0 (.cells [.slice none 0 0, .slice none 0 0, .slice none 0 0].toArray 92 (0, 0)) :: H) rfl (Mem.le.refl _) zpk ?_
          refine WE.acts [2] (by decide +kernel) (all_cons ?_ (all_nil))
          · refine Acts.mk rfl rfl (fun c h => by cases h) ?_
            refine WL.makeRow (k:=N + 1) (sz:=1) (by':=16) (zs:=[str []]) rfl rfl (by omega) (by omega) rfl rfl rfl rfl rfl rfl (by decide) (by omega) (by omega) rfl ?_; intro q2; refine WL.nil ?_
            refine WQ.acted (B := [.row (some ⟨q2, 0, none⟩) (N + 1) 9 1 (List.replicate (N + 1) [str []])]) (U := .blk r0 (.cells [.slice none 0 0, .slice none 0 0, .slice none 0 0].toArray 92 (0, 0)) :: H) rfl (Mem.le.refl _) zpk ?_
            (refine WE.calm 7 (by decide +kernel) rfl rfl (by decide +kernel) rfl (fun c h => by cases h) (by intro zm zF zle; exact sq_E11_1) ?_)
            refine WE.done (by decide +kernel) ?_
            (try (refine st_E11_1 ?_; intros))
            exact WQ.join ⟨q2, q4, q6, b, rfl, rfl, rfl, rfl⟩ zsb zpk
  rintro _ _ _ _ ⟨q2, q4, q6, b, rfl, rfl, rfl, rfl⟩
  obtain ⟨s1, s2, s3⟩ := pads_start N
  rw [← s1, ← s2, ← s3]
  (try (refine st_E11_1 ?_; intros))
  have hg0 : atOf Gs.start = 0 ∧ gapAt Gs.start = 0 := by unfold atOf gapAt; exact ⟨rfl, rfl⟩
  refine WC.loopH [(9, .int .i64 ((0) : Int)), (8, .int .i64 ((0) : Int)), (7, .int .i64 ((0) : Int)), (6, .pointer (some ⟨b, 0, none⟩)), (2, .pointer (some ⟨r0, 0, none⟩)), (0, .slice a l.length cap)] ?_ ?_ (fun j r ds m' H' => ∃ (i : Nat) (g : Gs) (ga : Nat) (p : Nat), j = l.length - i ∧ r = [(9, .int .i64 (i : Int)), (8, .int .i64 (ga : Int)), (7, .int .i64 (p : Int)), (6, .pointer (some ⟨b, 0, none⟩)), (2, .pointer (some ⟨r0, 0, none⟩)), (0, .slice a l.length cap)] ∧ ds = [] ∧ m = m' ∧ H' = .blk b (.cells [.slice (some ⟨q2, 0, none⟩) (N + 1) (N + 1), .slice (some ⟨q4, 0, none⟩) N N, .slice (some ⟨q6, 0, none⟩) N N].toArray 92 (0, 0)) :: .blk r0 (.cells [.slice none 0 0, .slice none 0 0, .slice none 0 0].toArray 92 (0, 0)) :: .row (some ⟨q2, 0, none⟩) (N + 1) 9 1 ((putsPad N g).map sV) :: .row (some ⟨q4, 0, none⟩) N 4 1 ((dropsPad N g).map oV) :: .row (some ⟨q6, 0, none⟩) N 5 1 ((bytesPad N g).map uV) :: H ∧ (i ≤ l.length) ∧ (ga = gapAt g) ∧ (p = atOf g) ∧ ((l.drop i).foldl Gs.step g = gapsOf l) ∧ (atOf g + fromA (atomsOf (l.drop i)) = N) ∧ (g = gapsOf (l.take i))) (l.length - (0)) ⟨0, Gs.start, 0, 0, rfl, rfl, rfl, rfl, rfl, by omega, hg0.2.symm, hg0.1.symm, rfl, by rw [List.drop_zero]; omega, by rw [List.take_zero]; rfl⟩ ?_
  · (repeat (first | exact Env.Sub.nil | refine Env.Sub.cons rfl ?_))
  · exact zpk
  rintro j r ds m' H' ⟨i, g, ga, p, rfl, rfl, rfl, rfl, rfl, hi, hga0, hp0, hg, hN, hgr⟩
  subst hga0; subst hp0
  have hat : atOf g ≤ N := by omega
  obtain ⟨p1, p2, p3⟩ := pads_len hat
  have hga : gapAt g ≤ atOf g := by unfold atOf; omega
  by_cases hlt : i < l.length
  · obtain ⟨x, hx, hget, htk, hmem, hdr⟩ := at_idx (f := Stp.cs) hlt
    have hxok := hok x hmem
    rw [hdr, List.foldl_cons, step_parts hxok] at hg
    rw [hdr, atoms_cons, fromA_append, from_step] at hN
    have hxp := hf.p x hmem
    have hxd := hf.d x hmem
    have hxk := hf.k x hmem
    have hr1 := ((((hr.more (i := .row (some ⟨q6, 0, none⟩) N 5 1 ((bytesPad N g).map uV))).more (i := .row (some ⟨q4, 0, none⟩) N 4 1 ((dropsPad N g).map oV))).more (i := .row (some ⟨q2, 0, none⟩) (N + 1) 9 1 ((putsPad N g).map sV))).more (i := .blk r0 (.cells [.slice none 0 0, .slice none 0 0, .slice none 0 0].toArray 92 (0, 0)))).more (i := .blk b (.cells [.slice (some ⟨q2, 0, none⟩) (N + 1) (N + 1), .slice (some ⟨q4, 0, none⟩) N N, .slice (some ⟨q6, 0, none⟩) N N].toArray 92 (0, 0)))
    refine WC.rSome hr1 (by omega) ?_
    rintro a0 rfl
    obtain ⟨u1, u2⟩ := put_puts (N := N) (g := g) (s := x.p) hat
    obtain ⟨u3, u4⟩ := put_at g x.p
    have u5 : ((putsPad N g).map sV)[gapAt g]? = some [str g.cur.p] := by rw [List.getElem?_map, u2]; rfl
    have u6 : ((putsPad N g).map sV).set (gapAt g) [str (g.cur.p ++ x.p)] = (putsPad N (g.put x.p)).map sV := by rw [u1, List.map_set]; rfl
    (refine st_E11_1 ?_; intros; rename_i bx)
    refine WC.join (fun r' ds' m' H' => r' = [(6, .pointer (some ⟨b, 0, none⟩)), (7, .int .i64 (atOf g : Int)), (8, .int .i64 (gapAt g : Int)), (9, .int .i64 (i : Int)), (10, .pointer (some ⟨bx, 0, none⟩)), (2, .pointer (some ⟨r0, 0, none⟩)), (0, .slice (some a0) l.length cap)] ∧ ds' = [] ∧ m = m' ∧ H' = .blk bx (.cells [.int .i64 x.k, str x.d, str x.p].toArray 84 (0, 0)) :: .blk b (.cells [.slice (some ⟨q2, 0, none⟩) (N + 1) (N + 1), .slice (some ⟨q4, 0, none⟩) N N, .slice (some ⟨q6, 0, none⟩) N N].toArray 92 (0, 0)) :: .blk r0 (.cells [.slice none 0 0, .slice none 0 0, .slice none 0 0].toArray 92 (0, 0)) :: .row (some ⟨q2, 0, none⟩) (N + 1) 9 1 ((putsPad N (g.put x.p)).map sV) :: .row (some ⟨q4, 0, none⟩) N 4 1 ((dropsPad N g).map oV) :: .row (some ⟨q6, 0, none⟩) N 5 1 ((bytesPad N g).map uV) :: H) ?_ ?_
    · by_cases hp : x.p = []
      · have e : g.put x.p = g := by rw [hp, put_nil]
        rw [e]
        (try (refine st_E11_1 ?_; intros))
        exact WQ.join ⟨rfl, rfl, rfl, rfl⟩ zsb zpk
      · have hpn : g.cur.p.length ≤ 100000000000 := by
          have := cur_len hok i
          rw [← hgr] at this
          omega
        (try (refine st_E11_1 ?_; intros))
        rw [u6]
        exact WQ.join ⟨rfl, rfl, rfl, rfl⟩ zsb zpk
    rintro _ _ _ _ ⟨rfl, rfl, rfl, rfl⟩
    have v1 : dropsPad N (g.put x.p) = dropsPad N g ∧ bytesPad N (g.put x.p) = bytesPad N g := by
      unfold dropsPad bytesPad Gs.put; exact ⟨rfl, rfl⟩
    rw [← v1.1, ← v1.2]
    (try (refine st_E11_1 ?_; intros))
    refine WC.loopH [(11, .int .i64 ((0) : Int)), (6, .pointer (some ⟨b, 0, none⟩)), (7, .int .i64 ((atOf g) : Int)), (8, .int .i64 (gapAt g : Int)), (9, .int .i64 (i : Int)), (10, .pointer (some ⟨bx, 0, none⟩)), (2, .pointer (some ⟨r0, 0, none⟩)), (0, .slice (some a0) l.length cap)] ?_ ?_ (fun j r ds m' H' => ∃ (q : Nat) (p : Nat) (gd : Gs), j = x.d.length - q ∧ r = [(11, .int .i64 (q : Int)), (6, .pointer (some ⟨b, 0, none⟩)), (7, .int .i64 (p : Int)), (8, .int .i64 (gapAt g : Int)), (9, .int .i64 (i : Int)), (10, .pointer (some ⟨bx, 0, none⟩)), (2, .pointer (some ⟨r0, 0, none⟩)), (0, .slice (some a0) l.length cap)] ∧ ds = [] ∧ m = m' ∧ H' = .blk bx (.cells [.int .i64 x.k, str x.d, str x.p].toArray 84 (0, 0)) :: .blk b (.cells [.slice (some ⟨q2, 0, none⟩) (N + 1) (N + 1), .slice (some ⟨q4, 0, none⟩) N N, .slice (some ⟨q6, 0, none⟩) N N].toArray 92 (0, 0)) :: .blk r0 (.cells [.slice none 0 0, .slice none 0 0, .slice none 0 0].toArray 92 (0, 0)) :: .row (some ⟨q2, 0, none⟩) (N + 1) 9 1 ((putsPad N gd).map sV) :: .row (some ⟨q4, 0, none⟩) N 4 1 ((dropsPad N gd).map oV) :: .row (some ⟨q6, 0, none⟩) N 5 1 ((bytesPad N gd).map uV) :: H ∧ (q ≤ x.d.length) ∧ (gd = (g.put x.p).drops (x.d.take q)) ∧ (p = atOf gd) ∧ (p = atOf g + q)) (x.d.length - (0)) ⟨0, atOf g, g.put x.p, rfl, rfl, rfl, rfl, rfl, by omega, by rw [List.take_zero, drops_nil], by rw [u3], by omega⟩ ?_
    · (repeat (first | exact Env.Sub.nil | refine Env.Sub.cons rfl ?_))
    · exact zpk
    rintro j r ds m' H' ⟨q, p, gd, rfl, rfl, rfl, rfl, rfl, hj, hgd, hp0, hpj⟩
    subst hp0
    by_cases hjl : q < x.d.length
    · obtain ⟨k1, k2, k3, k4, k5⟩ := byte_drops (N := N) (g := gd) (b := x.d[q]) (by omega)
      obtain ⟨z1, z2, z3⟩ := pads_len (N := N) (g := gd) (by omega)
      have k6 : ((dropsPad N gd).map oV).set (atOf gd) [.bool true] = (dropsPad N (gd.byte x.d[q])).map oV := by rw [k1, List.map_set]; rfl
      have k7 : ((bytesPad N gd).map uV).set (atOf gd) [.int .u8 (gb x.d q : Int)] = (bytesPad N (gd.byte x.d[q])).map uV := by rw [k2, List.map_set, gb_at hjl]; rfl
      (try (refine st_E11_1 ?_; intros))
      rw [k6, k7, ← k3]
      refine WQ.next (x.d.length - (q + 1)) ⟨q + 1, atOf gd + 1, gd.byte x.d[q], rfl, rfl, rfl, rfl, rfl, ?_, ?_, ?_, ?_⟩ (by omega) zsb zpk
      · omega
      · rw [hgd, List.take_succ_eq_append_getElem hjl, drops_snoc]
      · rw [k4]
      · omega
    · have hjx : q = x.d.length := by omega
      rw [hjx, List.take_length] at hgd
      obtain ⟨w1, w2⟩ := drops_at (g.put x.p) x.d
      rw [← hgd, u3] at w1
      rw [← hgd, u4] at w2
      by_cases hk : 0 < x.k
      · rw [if_pos hk, ← hgd] at hg
        obtain ⟨k1, k2, k3, k4, k5⟩ := keep_pads (N := N) (g := gd) (n := x.k.toNat) (by omega) (by omega)
        rw [← k1, ← k2, ← k3]
        have e : (atOf gd : Int) + x.k = ((atOf gd + x.k.toNat : Nat) : Int) := by omega
        (try (refine st_E11_1 ?_; intros))
        rw [e]
        refine WQ.next (l.length - (i + 1)) ⟨i + 1, gd.keeps x.k.toNat, atOf gd + x.k.toNat, atOf gd + x.k.toNat, rfl, rfl, rfl, rfl, rfl, ?_, ?_, ?_, ?_, ?_, ?_⟩ (by omega) zsb zpk
        · omega
        · exact k4.symm
        · exact k5.symm
        · exact hg
        · omega
        · rw [gaps_next htk, ← hgr, step_parts hxok, if_pos hk, ← hgd]
      · rw [if_neg hk, ← hgd] at hg
        (try (refine st_E11_1 ?_; intros))
        refine WQ.next (l.length - (i + 1)) ⟨i + 1, gd, gapAt g, atOf gd, rfl, rfl, rfl, rfl, rfl, ?_, ?_, ?_, ?_, ?_, ?_⟩ (by omega) zsb zpk
        · omega
        · exact w2.symm
        · rfl
        · exact hg
        · omega
        · rw [gaps_next htk, ← hgr, step_parts hxok, if_neg hk, ← hgd]
  · obtain rfl : i = l.length := by omega
    rw [List.drop_length, List.foldl_nil] at hg
    rw [List.drop_length] at hN
    obtain ⟨f1, f2, f3⟩ := pads_full (N := N) (g := g) (by rw [← hN]; rfl)
    rw [f1] at p2; rw [f2] at p3; rw [f3] at p1
    rw [f1, f2, f3]
    subst hg
    have p1' : N + 1 = (putsOf (gapsOf l)).length := by rw [← p1, List.length_map]
    have p2' : N = (dropsOf (gapsOf l)).length := by rw [← p2, List.length_map]
    have p3' : N = (bytesOf (gapsOf l)).length := by rw [← p3, List.length_map]
    (try (refine st_E11_1 ?_; intros))
    exact q_fin0 (H0 := .row (some ⟨q2, 0, none⟩) (N + 1) 9 1 ((putsOf (gapsOf l)).map sV) :: .row (some ⟨q4, 0, none⟩) N 4 1 ((dropsOf (gapsOf l)).map oV) :: .row (some ⟨q6, 0, none⟩) N 5 1 ((bytesOf (gapsOf l)).map uV) :: H) ⟨rfl, q2, q4, q6, by rw [← p1', ← p2', ← p3'], by rw [← p1', ← p2', ← p3']⟩ (hd := zpk)
end Go.Proofs.Ytelgegefmjlimaa

/-
  The walk of the reference's Compose: two changes, one behind the other. No condition.
-/
namespace Go.Eng
open Go Go.RowKit
def mV (x : Int × UInt8) : List Value := [.int .i64 x.1, .int .u8 (x.2.toNat : Int)]
theorem pend_more {A pre rest : List Atm} {ds : List UInt8} {next : Nat} (h : A = pre ++ (ds.map .d ++ rest)) (hn : next ≤ fromA pre) :
    ((bytesA A).take (fromA pre + ds.length)).drop next = ((bytesA A).take (fromA pre)).drop next ++ ds := by
  have hl := bytesA_len pre
  rw [h, bytesA_append, bytesA_append, bytesA_ds, ← hl, List.take_length_add_append, List.take_left, List.take_left, List.drop_append_of_le_length (by omega)]
theorem mids_at {A pre rest : List Atm} {ds : List UInt8} {c : UInt8} (h : A = pre ++ (ds.map .d ++ .p c :: rest)) : (midsA 0 A)[toA pre]? = some (-1, c) := by
  rw [h, midsA_append, List.getElem?_append_right (by rw [midsA_len]; exact Nat.le_refl _), midsA_len, Nat.sub_self, midsA_append, midsA_ds]
  rfl
theorem mids_atk {A pre rest : List Atm} {ds : List UInt8} (h : A = pre ++ (ds.map .d ++ .k :: rest)) : (midsA 0 A)[toA pre]? = some (((fromA pre + ds.length : Nat) : Int), 0) := by
  rw [h, midsA_append, List.getElem?_append_right (by rw [midsA_len]; exact Nat.le_refl _), midsA_len, Nat.sub_self, midsA_append, midsA_ds, fromA_d, Nat.zero_add]
  rfl
theorem midsTo_zero (P : List (List UInt8)) (D : List Bool) : midsTo P D 0 = [] := rfl
theorem midsTo_succ (P : List (List UInt8)) (D : List Bool) (p : Nat) : midsTo P D (p + 1) = midsTo P D p ++ (P.getD p []).map (fun c => (-1, c)) ++ (if D.getD p true = false then [((p : Int), 0)] else []) := rfl
end Go.Eng
namespace Go.Proofs.Ytelgegefmjlimaa
open Go Go.Eng
set_option maxRecDepth 100000
set_option maxHeartbeats 4000000
set_option linter.all false
attribute [local irreducible] WL WC WQ QFun QLoop Does Q1 QRound QAssign Go.Addr.add
attribute [local irreducible] sizesF sizesOf cmpT putsOf dropsOf bytesOf gapsOf midsTo
theorem cmx_E16_0 {G G' : Prop} (next : G') (h : Bx G' → G := by intro zzn; (try (refine wcal 0 ?_ (hwl := by intro zm zF zle; try refine WL.blkStr (s := [d]) rfl zhs rfl rfl rfl rfl rfl rfl rfl ?_; ((repeat (refine sp ?_; intros)); exact WQ.q1 rfl)))); (try (refine wcal 1 ?_ (hwl := by intro zm zF zle; try refine WL.blkStr (s := [d]) rfl zhs rfl rfl rfl rfl rfl rfl rfl ?_; ((repeat (refine sp ?_; intros)); exact WQ.q1 rfl)))); (try (refine wcal 2 ?_ (hwl := by intro zm zF zle; try refine WL.blkStr (s := [d]) rfl zhs rfl rfl rfl rfl rfl rfl rfl ?_; ((repeat (refine sp ?_; intros)); exact WQ.q1 rfl)))); (try (refine wcal 3 ?_ (hwl := by intro zm zF zle; try refine WL.blkStr (s := [d]) rfl zhs rfl rfl rfl rfl rfl rfl rfl ?_; ((repeat (refine sp ?_; intros)); exact WQ.q1 rfl)))); (try (refine wcal 4 ?_ (hwl := by intro zm zF zle; try refine WL.blkStr (s := [d]) rfl zhs rfl rfl rfl rfl rfl rfl rfl ?_; ((repeat (refine sp ?_; intros)); exact WQ.q1 rfl)))); (try (refine wcal 5 ?_ (hwl := by intro zm zF zle; try refine WL.blkStr (s := [d]) rfl zhs rfl rfl rfl rfl rfl rfl rfl ?_; ((repeat (refine sp ?_; intros)); exact WQ.q1 rfl)))); (try (refine wcal 6 ?_ (hwl := by intro zm zF zle; try refine WL.blkStr (s := [d]) rfl zhs rfl rfl rfl rfl rfl rfl rfl ?_; ((repeat (refine sp ?_; intros)); exact WQ.q1 rfl)))); (try (refine wcal 7 ?_ (hwl := by intro zm zF zle; try refine WL.blkStr (s := [d]) rfl zhs rfl rfl rfl rfl rfl rfl rfl ?_; ((repeat (refine sp ?_; intros)); exact WQ.q1 rfl)))); (try (refine wcal 8 ?_ (hwl := by intro zm zF zle; try refine WL.blkStr (s := [d]) rfl zhs rfl rfl rfl rfl rfl rfl rfl ?_; ((repeat (refine sp ?_; intros)); exact WQ.q1 rfl)))); (try (refine wcal 9 ?_ (hwl := by intro zm zF zle; try refine WL.blkStr (s := [d]) rfl zhs rfl rfl rfl rfl rfl rfl rfl ?_; ((repeat (refine sp ?_; intros)); exact WQ.q1 rfl)))); (try (refine wcal 10 ?_ (hwl := by intro zm zF zle; try refine WL.blkStr (s := [d]) rfl zhs rfl rfl rfl rfl rfl rfl rfl ?_; ((repeat (refine sp ?_; intros)); exact WQ.q1 rfl)))); (try (refine wcal 11 ?_ (hwl := by intro zm zF zle; try refine WL.blkStr (s := [d]) rfl zhs rfl rfl rfl rfl rfl rfl rfl ?_; ((repeat (refine sp ?_; intros)); exact WQ.q1 rfl)))); (try (refine wcal 12 ?_ (hwl := by intro zm zF zle; try refine WL.blkStr (s := [d]) rfl zhs rfl rfl rfl rfl rfl rfl rfl ?_; ((repeat (refine sp ?_; intros)); exact WQ.q1 rfl)))); (try (refine wcal 13 ?_ (hwl := by intro zm zF zle; try refine WL.blkStr (s := [d]) rfl zhs rfl rfl rfl rfl rfl rfl rfl ?_; ((repeat (refine sp ?_; intros)); exact WQ.q1 rfl)))); (try (refine wcal 14 ?_ (hwl := by intro zm zF zle; try refine WL.blkStr (s := [d]) rfl zhs rfl rfl rfl rfl rfl rfl rfl ?_; ((repeat (refine sp ?_; intros)); exact WQ.q1 rfl)))); (try (refine wcal 15 ?_ (hwl := by intro zm zF zle; try refine WL.blkStr (s := [d]) rfl zhs rfl rfl rfl rfl rfl rfl rfl ?_; ((repeat (refine sp ?_; intros)); exact WQ.q1 rfl)))); (try (refine wcal 16 ?_ (hwl := by intro zm zF zle; try refine WL.blkStr (s := [d]) rfl zhs rfl rfl rfl rfl rfl rfl rfl ?_; ((repeat (refine sp ?_; intros)); exact WQ.q1 rfl)))); (try (refine wcal 17 ?_ (hwl := by intro zm zF zle; try refine WL.blkStr (s := [d]) rfl zhs rfl rfl rfl rfl rfl rfl rfl ?_; ((repeat (refine sp ?_; intros)); exact WQ.q1 rfl)))); (try (refine wcal 18 ?_ (hwl := by intro zm zF zle; try refine WL.blkStr (s := [d]) rfl zhs rfl rfl rfl rfl rfl rfl rfl ?_; ((repeat (refine sp ?_; intros)); exact WQ.q1 rfl)))); (try (refine wcal 19 ?_ (hwl := by intro zm zF zle; try refine WL.blkStr (s := [d]) rfl zhs rfl rfl rfl rfl rfl rfl rfl ?_; ((repeat (refine sp ?_; intros)); exact WQ.q1 rfl)))); (try (refine wcal 20 ?_ (hwl := by intro zm zF zle; try refine WL.blkStr (s := [d]) rfl zhs rfl rfl rfl rfl rfl rfl rfl ?_; ((repeat (refine sp ?_; intros)); exact WQ.q1 rfl)))); (try (refine wcal 21 ?_ (hwl := by intro zm zF zle; try refine WL.blkStr (s := [d]) rfl zhs rfl rfl rfl rfl rfl rfl rfl ?_; ((repeat (refine sp ?_; intros)); exact WQ.q1 rfl)))); (try (refine wcal 22 ?_ (hwl := by intro zm zF zle; try refine WL.blkStr (s := [d]) rfl zhs rfl rfl rfl rfl rfl rfl rfl ?_; ((repeat (refine sp ?_; intros)); exact WQ.q1 rfl)))); (try (refine wcal 23 ?_ (hwl := by intro zm zF zle; try refine WL.blkStr (s := [d]) rfl zhs rfl rfl rfl rfl rfl rfl rfl ?_; ((repeat (refine sp ?_; intros)); exact WQ.q1 rfl)))); (try (refine wcal 24 ?_ (hwl := by intro zm zF zle; try refine WL.blkStr (s := [d]) rfl zhs rfl rfl rfl rfl rfl rfl rfl ?_; ((repeat (refine sp ?_; intros)); exact WQ.q1 rfl)))); (try (refine wcal 25 ?_ (hwl := by intro zm zF zle; try refine WL.blkStr (s := [d]) rfl zhs rfl rfl rfl rfl rfl rfl rfl ?_; ((repeat (refine sp ?_; intros)); exact WQ.q1 rfl)))); (try (refine wcal 26 ?_ (hwl := by intro zm zF zle; try refine WL.blkStr (s := [d]) rfl zhs rfl rfl rfl rfl rfl rfl rfl ?_; ((repeat (refine sp ?_; intros)); exact WQ.q1 rfl)))); (try (refine wcal 27 ?_ (hwl := by intro zm zF zle; try refine WL.blkStr (s := [d]) rfl zhs rfl rfl rfl rfl rfl rfl rfl ?_; ((repeat (refine sp ?_; intros)); exact WQ.q1 rfl)))); (try (refine wcal 28 ?_ (hwl := by intro zm zF zle; try refine WL.blkStr (s := [d]) rfl zhs rfl rfl rfl rfl rfl rfl rfl ?_; ((repeat (refine sp ?_; intros)); exact WQ.q1 rfl)))); (try (refine wcal 29 ?_ (hwl := by intro zm zF zle; try refine WL.blkStr (s := [d]) rfl zhs rfl rfl rfl rfl rfl rfl rfl ?_; ((repeat (refine sp ?_; intros)); exact WQ.q1 rfl)))); (try (refine wcal 30 ?_ (hwl := by intro zm zF zle; try refine WL.blkStr (s := [d]) rfl zhs rfl rfl rfl rfl rfl rfl rfl ?_; ((repeat (refine sp ?_; intros)); exact WQ.q1 rfl)))); (try (refine wcal 31 ?_ (hwl := by intro zm zF zle; try refine WL.blkStr (s := [d]) rfl zhs rfl rfl rfl rfl rfl rfl rfl ?_; ((repeat (refine sp ?_; intros)); exact WQ.q1 rfl)))); (try (refine wcal 32 ?_ (hwl := by intro zm zF zle; try refine WL.blkStr (s := [d]) rfl zhs rfl rfl rfl rfl rfl rfl rfl ?_; ((repeat (refine sp ?_; intros)); exact WQ.q1 rfl)))); (try (refine wcal 33 ?_ (hwl := by intro zm zF zle; try refine WL.blkStr (s := [d]) rfl zhs rfl rfl rfl rfl rfl rfl rfl ?_; ((repeat (refine sp ?_; intros)); exact WQ.q1 rfl)))); (try (refine wcal 34 ?_ (hwl := by intro zm zF zle; try refine WL.blkStr (s := [d]) rfl zhs rfl rfl rfl rfl rfl rfl rfl ?_; ((repeat (refine sp ?_; intros)); exact WQ.q1 rfl)))); (try (refine wcal 35 ?_ (hwl := by intro zm zF zle; try refine WL.blkStr (s := [d]) rfl zhs rfl rfl rfl rfl rfl rfl rfl ?_; ((repeat (refine sp ?_; intros)); exact WQ.q1 rfl)))); (try (refine wcal 36 ?_ (hwl := by intro zm zF zle; try refine WL.blkStr (s := [d]) rfl zhs rfl rfl rfl rfl rfl rfl rfl ?_; ((repeat (refine sp ?_; intros)); exact WQ.q1 rfl)))); (try (refine wcal 37 ?_ (hwl := by intro zm zF zle; try refine WL.blkStr (s := [d]) rfl zhs rfl rfl rfl rfl rfl rfl rfl ?_; ((repeat (refine sp ?_; intros)); exact WQ.q1 rfl)))); (try (refine wcal 38 ?_ (hwl := by intro zm zF zle; try refine WL.blkStr (s := [d]) rfl zhs rfl rfl rfl rfl rfl rfl rfl ?_; ((repeat (refine sp ?_; intros)); exact WQ.q1 rfl)))); (try (refine wcal 39 ?_ (hwl := by intro zm zF zle; try refine WL.blkStr (s := [d]) rfl zhs rfl rfl rfl rfl rfl rfl rfl ?_; ((repeat (refine sp ?_; intros)); exact WQ.q1 rfl)))); (try (refine wcal 40 ?_ (hwl := by intro zm zF zle; try refine WL.blkStr (s := [d]) rfl zhs rfl rfl rfl rfl rfl rfl rfl ?_; ((repeat (refine sp ?_; intros)); exact WQ.q1 rfl)))); (try (refine wcal 41 ?_ (hwl := by intro zm zF zle; try refine WL.blkStr (s := [d]) rfl zhs rfl rfl rfl rfl rfl rfl rfl ?_; ((repeat (refine sp ?_; intros)); exact WQ.q1 rfl)))); exact zzn.out) : G := h ⟨next⟩
theorem mdrop_any {b : Nat} {c : Option Addr} {cp : Nat} (B : Bld) (d : UInt8) (hB : B.d.length ≤ 100000000000) (w0 : World) (m : Mem) (H : SHeap) :
    Does Try.prog 49 #[.pointer (some ⟨b, 0, none⟩), .int .u8 (d.toNat : Int)] w0 m (.blk b (.cells [.slice c B.l.length cp, str B.p, str B.d].toArray 109 (0, 0)) :: H)
      (fun v m' H' => v = .tuple #[] ∧ m' = m ∧ H' = .blk b (.cells [.slice c B.l.length cp, str B.p, str (B.d ++ [d])].toArray 109 (0, 0)) :: H) := by
  refine Does.of_body (args := [.pointer (some ⟨b, 0, none⟩), .int .u8 (d.toNat : Int)]) Try.func49 rfl Try.ntmps49 rfl ?_
  have hd1 : [d].length = 1 := rfl
  refine WC.drawE 11 ([.blk b (.cells [.slice c B.l.length cp, str B.p, str B.d].toArray 109 (0, 0))]) (H) rfl (by decide +kernel) zpk ?_
  (refine cm0 ?_)
  refine WE.act1 6 (by decide +kernel) rfl rfl (fun c h => by cases h) ?_
  (refine st ?_; intros; rename_i q)
  refine WQ.acted (B := [.blk q (.cells [.int .u8 (d.toNat : Int)].toArray 5 (0, 0))]) (U := H) rfl (Mem.le.refl _) zpk ?_
  (refine cmx_E16_0 ?_)
  (refine cm0 ?_)
  refine WE.done (by decide +kernel) ?_
  (try (refine st ?_; intros))
  exact q_finNorm0 (H0 := .blk b (.cells [.slice c B.l.length cp, str B.p, str (B.d ++ [d])].toArray 109 (0, 0)) :: H) ⟨rfl, rfl, rfl⟩ (hd := zpk)
theorem sq_E16_1 {G : Prop} (h : G := by (repeat (first | (refine sp ?_; (repeat intro zzc)) | (refine iF 14 rfl ?_; refine w_callG Try.func14 ?_ (hs := refSizes_any (by assumption) _ _ _ (by assumption))))); exact WQ.q1 rfl) : G := h
theorem cm_E16_1 {G G' : Prop} (next : G') (h : Bx G' → G := by intro zzn; (try (refine wcal 0 ?_ (hwl := by intro zm zF zle; exact sq_E16_1))); (try (refine wcal 1 ?_ (hwl := by intro zm zF zle; exact sq_E16_1))); (try (refine wcal 2 ?_ (hwl := by intro zm zF zle; exact sq_E16_1))); (try (refine wcal 3 ?_ (hwl := by intro zm zF zle; exact sq_E16_1))); (try (refine wcal 4 ?_ (hwl := by intro zm zF zle; exact sq_E16_1))); (try (refine wcal 5 ?_ (hwl := by intro zm zF zle; exact sq_E16_1))); (try (refine wcal 6 ?_ (hwl := by intro zm zF zle; exact sq_E16_1))); (try (refine wcal 7 ?_ (hwl := by intro zm zF zle; exact sq_E16_1))); (try (refine wcal 8 ?_ (hwl := by intro zm zF zle; exact sq_E16_1))); (try (refine wcal 9 ?_ (hwl := by intro zm zF zle; exact sq_E16_1))); (try (refine wcal 10 ?_ (hwl := by intro zm zF zle; exact sq_E16_1))); (try (refine wcal 11 ?_ (hwl := by intro zm zF zle; exact sq_E16_1))); (try (refine wcal 12 ?_ (hwl := by intro zm zF zle; exact sq_E16_1))); (try (refine wcal 13 ?_ (hwl := by intro zm zF zle; exact sq_E16_1))); (try (refine wcal 14 ?_ (hwl := by intro zm zF zle; exact sq_E16_1))); (try (refine wcal 15 ?_ (hwl := by intro zm zF zle; exact sq_E16_1))); (try (refine wcal 16 ?_ (hwl := by intro zm zF zle; exact sq_E16_1))); (try (refine wcal 17 ?_ (hwl := by intro zm zF zle; exact sq_E16_1))); (try (refine wcal 18 ?_ (hwl := by intro zm zF zle; exact sq_E16_1))); (try (refine wcal 19 ?_ (hwl := by intro zm zF zle; exact sq_E16_1))); (try (refine wcal 20 ?_ (hwl := by intro zm zF zle; exact sq_E16_1))); (try (refine wcal 21 ?_ (hwl := by intro zm zF zle; exact sq_E16_1))); (try (refine wcal 22 ?_ (hwl := by intro zm zF zle; exact sq_E16_1))); (try (refine wcal 23 ?_ (hwl := by intro zm zF zle; exact sq_E16_1))); (try (refine wcal 24 ?_ (hwl := by intro zm zF zle; exact sq_E16_1))); (try (refine wcal 25 ?_ (hwl := by intro zm zF zle; exact sq_E16_1))); (try (refine wcal 26 ?_ (hwl := by intro zm zF zle; exact sq_E16_1))); (try (refine wcal 27 ?_ (hwl := by intro zm zF zle; exact sq_E16_1))); (try (refine wcal 28 ?_ (hwl := by intro zm zF zle; exact sq_E16_1))); (try (refine wcal 29 ?_ (hwl := by intro zm zF zle; exact sq_E16_1))); (try (refine wcal 30 ?_ (hwl := by intro zm zF zle; exact sq_E16_1))); (try (refine wcal 31 ?_ (hwl := by intro zm zF zle; exact sq_E16_1))); (try (refine wcal 32 ?_ (hwl := by intro zm zF zle; exact sq_E16_1))); (try (refine wcal 33 ?_ (hwl := by intro zm zF zle; exact sq_E16_1))); (try (refine wcal 34 ?_ (hwl := by intro zm zF zle; exact sq_E16_1))); (try (refine wcal 35 ?_ (hwl := by intro zm zF zle; exact sq_E16_1))); (try (refine wcal 36 ?_ (hwl := by intro zm zF zle; exact sq_E16_1))); (try (refine wcal 37 ?_ (hwl := by intro zm zF zle; exact sq_E16_1))); (try (refine wcal 38 ?_ (hwl := by intro zm zF zle; exact sq_E16_1))); (try (refine wcal 39 ?_ (hwl := by intro zm zF zle; exact sq_E16_1))); (try (refine wcal 40 ?_ (hwl := by intro zm zF zle; exact sq_E16_1))); (try (refine wcal 41 ?_ (hwl := by intro zm zF zle; exact sq_E16_1))); exact zzn.out) : G := h ⟨next⟩
theorem st_E16_1 {G G' : Prop} (next : G') (h : Bx G' → G := by intro zzn; (first | ((refine st ?_; (repeat intro zzc)); (try ((first | (refine iF 14 rfl ?_; refine w_callG Try.func14 ?_ (hs := refSizes_any (by assumption) _ _ _ (by assumption))) | ((refine iDraw ?_; (first | refine WC.drawAll rfl (by decide +kernel) ?_ | refine WC.draw 1 rfl (by decide +kernel) ?_ | refine WC.draw 2 rfl (by decide +kernel) ?_ | refine WC.draw 3 rfl (by decide +kernel) ?_ | refine WC.draw 4 rfl (by decide +kernel) ?_ | refine WC.draw 5 rfl (by decide +kernel) ?_ | refine WC.draw 6 rfl (by decide +kernel) ?_ | refine WC.draw 7 rfl (by decide +kernel) ?_ | refine WC.draw 8 rfl (by decide +kernel) ?_ | refine WC.draw 9 rfl (by decide +kernel) ?_ | refine WC.draw 10 rfl (by decide +kernel) ?_ | refine WC.draw 11 rfl (by decide +kernel) ?_ | refine WC.draw 12 rfl (by decide +kernel) ?_ | refine WC.draw 13 rfl (by decide +kernel) ?_ | refine WC.draw 14 rfl (by decide +kernel) ?_ | refine WC.draw 15 rfl (by decide +kernel) ?_ | refine WC.draw 16 rfl (by decide +kernel) ?_ | refine WC.draw 17 rfl (by decide +kernel) ?_ | refine WC.draw 18 rfl (by decide +kernel) ?_ | refine WC.draw 19 rfl (by decide +kernel) ?_ | refine WC.draw 20 rfl (by decide +kernel) ?_ | refine WC.draw 21 rfl (by decide +kernel) ?_ | refine WC.draw 22 rfl (by decide +kernel) ?_ | refine WC.draw 23 rfl (by decide +kernel) ?_ | refine WC.draw 24 rfl (by decide +kernel) ?_)); (repeat (refine WD.cons rfl (fun c h => by cases h) sq_E16_1 ?_)); refine WD.nil ?_)); (try (refine st ?_; (repeat intro zzc)))))) | ((first | (refine iF 14 rfl ?_; refine w_callG Try.func14 ?_ (hs := refSizes_any (by assumption) _ _ _ (by assumption))) | ((refine iDraw ?_; (first | refine WC.drawAll rfl (by decide +kernel) ?_ | refine WC.draw 1 rfl (by decide +kernel) ?_ | refine WC.draw 2 rfl (by decide +kernel) ?_ | refine WC.draw 3 rfl (by decide +kernel) ?_ | refine WC.draw 4 rfl (by decide +kernel) ?_ | refine WC.draw 5 rfl (by decide +kernel) ?_ | refine WC.draw 6 rfl (by decide +kernel) ?_ | refine WC.draw 7 rfl (by decide +kernel) ?_ | refine WC.draw 8 rfl (by decide +kernel) ?_ | refine WC.draw 9 rfl (by decide +kernel) ?_ | refine WC.draw 10 rfl (by decide +kernel) ?_ | refine WC.draw 11 rfl (by decide +kernel) ?_ | refine WC.draw 12 rfl (by decide +kernel) ?_ | refine WC.draw 13 rfl (by decide +kernel) ?_ | refine WC.draw 14 rfl (by decide +kernel) ?_ | refine WC.draw 15 rfl (by decide +kernel) ?_ | refine WC.draw 16 rfl (by decide +kernel) ?_ | refine WC.draw 17 rfl (by decide +kernel) ?_ | refine WC.draw 18 rfl (by decide +kernel) ?_ | refine WC.draw 19 rfl (by decide +kernel) ?_ | refine WC.draw 20 rfl (by decide +kernel) ?_ | refine WC.draw 21 rfl (by decide +kernel) ?_ | refine WC.draw 22 rfl (by decide +kernel) ?_ | refine WC.draw 23 rfl (by decide +kernel) ?_ | refine WC.draw 24 rfl (by decide +kernel) ?_)); (repeat (refine WD.cons rfl (fun c h => by cases h) sq_E16_1 ?_)); refine WD.nil ?_)); (try (refine st ?_; (repeat intro zzc))))); (repeat ((first | (refine iF 14 rfl ?_; refine w_callG Try.func14 ?_ (hs := refSizes_any (by assumption) _ _ _ (by assumption))) | ((refine iDraw ?_; (first | refine WC.drawAll rfl (by decide +kernel) ?_ | refine WC.draw 1 rfl (by decide +kernel) ?_ | refine WC.draw 2 rfl (by decide +kernel) ?_ | refine WC.draw 3 rfl (by decide +kernel) ?_ | refine WC.draw 4 rfl (by decide +kernel) ?_ | refine WC.draw 5 rfl (by decide +kernel) ?_ | refine WC.draw 6 rfl (by decide +kernel) ?_ | refine WC.draw 7 rfl (by decide +kernel) ?_ | refine WC.draw 8 rfl (by decide +kernel) ?_ | refine WC.draw 9 rfl (by decide +kernel) ?_ | refine WC.draw 10 rfl (by decide +kernel) ?_ | refine WC.draw 11 rfl (by decide +kernel) ?_ | refine WC.draw 12 rfl (by decide +kernel) ?_ | refine WC.draw 13 rfl (by decide +kernel) ?_ | refine WC.draw 14 rfl (by decide +kernel) ?_ | refine WC.draw 15 rfl (by decide +kernel) ?_ | refine WC.draw 16 rfl (by decide +kernel) ?_ | refine WC.draw 17 rfl (by decide +kernel) ?_ | refine WC.draw 18 rfl (by decide +kernel) ?_ | refine WC.draw 19 rfl (by decide +kernel) ?_ | refine WC.draw 20 rfl (by decide +kernel) ?_ | refine WC.draw 21 rfl (by decide +kernel) ?_ | refine WC.draw 22 rfl (by decide +kernel) ?_ | refine WC.draw 23 rfl (by decide +kernel) ?_ | refine WC.draw 24 rfl (by decide +kernel) ?_)); (repeat (refine WD.cons rfl (fun c h => by cases h) sq_E16_1 ?_)); refine WD.nil ?_)); (try (refine st ?_; (repeat intro zzc))))); (repeat revert zzc); exact zzn.out) : G := h ⟨next⟩
theorem rCompose_any {pa pb : Option Addr} {ca cb : Nat} {a b : List Stp} {fa ta fb tb : Int} (hfa : Fit a) (hfb : Fit b) (hsa : sizesOf a = some (fa, ta)) (hsb : sizesOf b = some (fb, tb)) (w0 : World) (m : Mem) (H : SHeap) (hra : RowR w0 m H 3 pa (a.map Stp.cs)) (hrb : RowR w0 m H 3 pb (b.map Stp.cs)) :
    Does Try.prog 18 #[.slice pa a.length ca, .slice pb b.length cb] w0 m H (ListP 84 (comP a b) .i64 m H) := by
  refine Does.of_body (args := [.slice pa a.length ca, .slice pb b.length cb]) Try.func18 rfl Try.ntmps18 rfl ?_
  have e2 : szR (sizesOf a) = .tuple #[.int .i64 fa, .int .i64 ta, .bool true] := by rw [hsa]; rfl
  have e3 : szR (sizesOf b) = .tuple #[.int .i64 fb, .int .i64 tb, .bool true] := by rw [hsb]; rfl
  obtain ⟨hoka, hal, hpla, hfra, htoa, _, _, _, _⟩ := sized hsa
  obtain ⟨hokb, hbl, hplb, hfrb, htob, _, _, _, _⟩ := sized hsb
  (try (refine st_E16_1 ?_; intros))
  rw [e2]
  (try (refine st_E16_1 ?_; intros))
  rw [e3]
  by_cases hmf : ta = fb
  · (try (refine st_E16_1 ?_; intros))
    refine w_callF Try.func43 ?_ (hs := say_any hfa hsa _ _ _ hra)
    rintro _ m _ ⟨rfl, q2, q4, q6, rfl, rfl⟩
    (try (refine st_E16_1 ?_; intros))
    refine w_callF Try.func43 ?_ (hs := say_any hfb hsb _ _ _ hrb.more.more.more)
    rintro _ m _ ⟨rfl, z2, z4, z6, rfl, rfl⟩
    have hda := drops_from a hoka
    have hdb := drops_from b hokb
    obtain ⟨la1, la2⟩ := said_len (gapsOf a)
    obtain ⟨lb1, lb2⟩ := said_len (gapsOf b)
    have hma := mids_all a
    obtain ⟨na1, na2⟩ := nf_sizes a hoka
    have hba := bytes_nf (gapsOf a)
    have hpb : posOf (gapsOf b) = (putsOf (gapsOf b)).zip ((dropsOf (gapsOf b)).zip (bytesOf (gapsOf b))) := rfl
    have hlb : lastOf (gapsOf b) = (putsOf (gapsOf b)).getD (dropsOf (gapsOf b)).length [] := rfl
    have hcom : comP a b = match cmpT Bld.start (nfOf (gapsOf a)) (sdA (posOf (gapsOf b)) (lastOf (gapsOf b))) with
        | none => .inl 270
        | some l => .inr l := by
      simp only [comP, hsa, hsb]
      rw [if_neg (fun h => h hmf), sd_atoms]
      cases cmpT Bld.start (nfOf (gapsOf a)) (nfOf (gapsOf b)) <;> rfl
    generalize putsOf (gapsOf a) = PX at *
    generalize dropsOf (gapsOf a) = DX at *
    generalize bytesOf (gapsOf a) = BX at *
    generalize putsOf (gapsOf b) = PY at *
    generalize dropsOf (gapsOf b) = DY at *
    generalize bytesOf (gapsOf b) = BY at *
    have hPl : (PX.map sV).length = PX.length := by simp
    have hDl : (DX.map oV).length = DX.length := by simp
    have hBl : (BX.map uV).length = BX.length := by simp
    have hPl2 : (PY.map sV).length = PY.length := by simp
    have hDl2 : (DY.map oV).length = DY.length := by simp
    have hBl2 : (BY.map uV).length = BY.length := by simp
    have hMl : (midsTo PX DX PX.length).length = toA (atomsOf a) := by rw [hma, midsA_len, na2]
    have hMle : ∀ p, p ≤ PX.length → (midsTo PX DX p).length ≤ toA (atomsOf a) := by
      intro p hp
      rw [← hMl]
      obtain ⟨d, hd⟩ : ∃ d, PX.length = p + d := ⟨PX.length - p, by omega⟩
      rw [hd]
      clear hd hp
      induction d with
      | zero => exact Nat.le_refl _
      | succ d ih => rw [← Nat.add_assoc]; refine Nat.le_trans ih ?_; rw [midsTo_succ]; simp only [List.length_append]; omega
    (refine st_E16_1 ?_; intros; rename_i x y)
    refine WC.newRow (T := 107) (sz := 2) ?_
    refine WC.loopH [(15, .int .i64 ((0) : Int)), (14, .slice (none) (0) (0)), (13, .pointer (some ⟨y, 0, none⟩)), (12, .pointer (some ⟨x, 0, none⟩))] ?_ ?_ (fun j r ds m' H' => ∃ (p : Nat) (cl : Option Addr) (pl : Nat) (n : Nat) (M : List (Int × UInt8)), j = PX.length - p ∧ r = [(15, .int .i64 (p : Int)), (14, .slice cl n pl), (13, .pointer (some ⟨y, 0, none⟩)), (12, .pointer (some ⟨x, 0, none⟩))] ∧ ds = [] ∧ m = m' ∧ H' = .row cl pl 107 2 (M.map mV) :: .blk x (.cells [.slice (some ⟨q2, 0, none⟩) PX.length PX.length, .slice (some ⟨q4, 0, none⟩) DX.length DX.length, .slice (some ⟨q6, 0, none⟩) BX.length BX.length].toArray 92 (0, 0)) :: .row (some ⟨q2, 0, none⟩) PX.length 9 1 (PX.map sV) :: .row (some ⟨q4, 0, none⟩) DX.length 4 1 (DX.map oV) :: .row (some ⟨q6, 0, none⟩) BX.length 5 1 (BX.map uV) :: .blk y (.cells [.slice (some ⟨z2, 0, none⟩) PY.length PY.length, .slice (some ⟨z4, 0, none⟩) DY.length DY.length, .slice (some ⟨z6, 0, none⟩) BY.length BY.length].toArray 92 (0, 0)) :: .row (some ⟨z2, 0, none⟩) PY.length 9 1 (PY.map sV) :: .row (some ⟨z4, 0, none⟩) DY.length 4 1 (DY.map oV) :: .row (some ⟨z6, 0, none⟩) BY.length 5 1 (BY.map uV) :: H ∧ (p ≤ PX.length) ∧ (M = midsTo PX DX p) ∧ (n = M.length)) (PX.length - (0)) ⟨0, none, 0, 0, ([] : List (Int × UInt8)), rfl, rfl, rfl, rfl, rfl, by omega, (midsTo_zero PX DX).symm, rfl⟩ ?_
    · (repeat (first | exact Env.Sub.nil | refine Env.Sub.cons rfl ?_))
    · exact zpk
    rintro j r ds m' H' ⟨p, cl, pl, n, M, rfl, rfl, rfl, rfl, rfl, hp, hM, hn⟩
    · subst hn
      subst hM
      by_cases hlt : p < PX.length
      · have hget : (PX.map sV)[p]? = some [str PX[p]] := by rw [List.getElem?_map, List.getElem?_eq_getElem hlt]; rfl
        have hnx := midsTo_succ PX DX p
        have hnl := hMle (p + 1) (by omega)
        have ePg : PX.getD p [] = PX[p] := by rw [List.getD_eq_getElem?_getD, List.getElem?_eq_getElem hlt]; rfl
        rw [ePg] at hnx
        have hnl2 := congrArg List.length hnx
        simp only [List.length_append, List.length_map] at hnl2
        (try (refine st_E16_1 ?_; intros))
        refine WC.loopH [(16, .int .i64 ((0) : Int)), (15, .int .i64 (p : Int)), (14, .slice (cl) ((midsTo PX DX p).length) (pl)), (13, .pointer (some ⟨y, 0, none⟩)), (12, .pointer (some ⟨x, 0, none⟩))] ?_ ?_ (fun j r ds m' H' => ∃ (k : Nat) (cl : Option Addr) (pl : Nat) (n : Nat) (M : List (Int × UInt8)), j = PX[p].length - k ∧ r = [(16, .int .i64 (k : Int)), (15, .int .i64 (p : Int)), (14, .slice cl n pl), (13, .pointer (some ⟨y, 0, none⟩)), (12, .pointer (some ⟨x, 0, none⟩))] ∧ ds = [] ∧ m = m' ∧ H' = .row cl pl 107 2 (M.map mV) :: .blk x (.cells [.slice (some ⟨q2, 0, none⟩) PX.length PX.length, .slice (some ⟨q4, 0, none⟩) DX.length DX.length, .slice (some ⟨q6, 0, none⟩) BX.length BX.length].toArray 92 (0, 0)) :: .row (some ⟨q2, 0, none⟩) PX.length 9 1 (PX.map sV) :: .row (some ⟨q4, 0, none⟩) DX.length 4 1 (DX.map oV) :: .row (some ⟨q6, 0, none⟩) BX.length 5 1 (BX.map uV) :: .blk y (.cells [.slice (some ⟨z2, 0, none⟩) PY.length PY.length, .slice (some ⟨z4, 0, none⟩) DY.length DY.length, .slice (some ⟨z6, 0, none⟩) BY.length BY.length].toArray 92 (0, 0)) :: .row (some ⟨z2, 0, none⟩) PY.length 9 1 (PY.map sV) :: .row (some ⟨z4, 0, none⟩) DY.length 4 1 (DY.map oV) :: .row (some ⟨z6, 0, none⟩) BY.length 5 1 (BY.map uV) :: H ∧ (k ≤ PX[p].length) ∧ (M = midsTo PX DX p ++ (PX[p].take k).map fun c => (-1, c)) ∧ (n = M.length)) (PX[p].length - (0)) ⟨0, cl, pl, (midsTo PX DX p).length, midsTo PX DX p, rfl, rfl, rfl, rfl, rfl, by omega, by simp, rfl⟩ ?_
        · (repeat (first | exact Env.Sub.nil | refine Env.Sub.cons rfl ?_))
        · exact zpk
        rintro j r ds m' H' ⟨k, cl, pl, n, M, rfl, rfl, rfl, rfl, rfl, hk, hM, hn⟩
        subst hn
        have hml : (M.map mV).length = M.length := by simp
        have hMl3 : M.length = (midsTo PX DX p).length + k := by rw [hM]; simp; omega
        by_cases hk2 : k < PX[p].length
        · have hg := gb_at hk2
          (refine st_E16_1 ?_; intros; rename_i c2 p2)
          have em : M.map mV ++ [[.int .i64 (-1), .int .u8 (gb PX[p] k : Int)]] = (M ++ [(-1, PX[p][k])]).map mV := by rw [List.map_append, hg]; rfl
          rw [em, hml]
          refine WQ.next (PX[p].length - (k + 1)) ⟨k + 1, c2, p2, M.length + 1, M ++ [(-1, PX[p][k])], rfl, rfl, rfl, rfl, rfl, ?_, ?_, ?_⟩ (by omega) zsb zpk
          · omega
          · rw [hM, List.take_succ_eq_append_getElem hk2, List.map_append, List.append_assoc]; rfl
          · simp
        · obtain rfl : k = PX[p].length := by omega
          rw [List.take_length] at hM
          by_cases hpd : p < DX.length
          · have hgd : (DX.map oV)[p]? = some [.bool DX[p]] := by rw [List.getElem?_map, List.getElem?_eq_getElem hpd]; rfl
            have eDg : DX.getD p true = DX[p] := by rw [List.getD_eq_getElem?_getD, List.getElem?_eq_getElem hpd]; rfl
            rw [eDg] at hnx hnl2
            cases hdp : DX[p] with
            | true =>
              rw [hdp] at hgd hnx
              (try (refine st_E16_1 ?_; intros))
              refine WQ.next (PX.length - (p + 1)) ⟨p + 1, cl, pl, M.length, M, rfl, rfl, rfl, rfl, rfl, ?_, ?_, ?_⟩ (by omega) zsb zpk
              · omega
              · rw [hnx, hM]; simp
              · rfl
            | false =>
              rw [hdp] at hgd hnx hnl2
              simp only [if_true, List.length_cons, List.length_nil] at hnl2
              (refine st_E16_1 ?_; intros; rename_i c2 p2)
              have em : M.map mV ++ [[.int .i64 (p : Int), .int .u8 0]] = (M ++ [((p : Int), 0)]).map mV := by rw [List.map_append]; rfl
              rw [em, hml]
              refine WQ.next (PX.length - (p + 1)) ⟨p + 1, c2, p2, M.length + 1, M ++ [((p : Int), 0)], rfl, rfl, rfl, rfl, rfl, ?_, ?_, ?_⟩ (by omega) zsb zpk
              · omega
              · rw [hnx, hM]; simp
              · simp
          · have eDg : DX.getD p true = true := by rw [List.getD_eq_getElem?_getD, List.getElem?_eq_none (by omega)]; rfl
            rw [eDg] at hnx
            (try (refine st_E16_1 ?_; intros))
            refine WQ.next (PX.length - (p + 1)) ⟨p + 1, cl, pl, M.length, M, rfl, rfl, rfl, rfl, rfl, ?_, ?_, ?_⟩ (by omega) zsb zpk
            · omega
            · rw [hnx, hM]; simp
            · rfl
      · obtain rfl : p = PX.length := by omega
        rw [hma] at hMl ⊢
        have hla2 : (nfOf (gapsOf a)).length ≤ 200000 := by have := atoms_le (nfOf (gapsOf a)); omega
        have hlb2 : (sdA (posOf (gapsOf b)) (lastOf (gapsOf b))).length ≤ 200000 := by
          rw [sd_atoms]; have := atoms_le (nfOf (gapsOf b)); obtain ⟨nb1, nb2⟩ := nf_sizes b hokb; omega
        clear hMle hma
        generalize hAA : nfOf (gapsOf a) = A at *
        generalize hMM : midsA 0 A = M at *
        generalize posOf (gapsOf b) = YP at *
        generalize lastOf (gapsOf b) = YL at *
        have hml : (M.map mV).length = M.length := by simp
        have hMA : M.length = toA A := by omega
        have hMD : M.length = DY.length := by omega
        have hYl : YP.length = DY.length := by rw [hpb]; simp only [List.length_zip]; omega
        (refine st_E16_1 ?_; intros; rename_i bm)
        refine WC.newRow (T := 84) (sz := 3) ?_
        refine WC.loopH [(19, .int .i64 ((0) : Int)), (18, .int .i64 ((0) : Int)), (17, .pointer (some ⟨bm, 0, none⟩)), (14, .slice cl M.length pl), (13, .pointer (some ⟨y, 0, none⟩)), (12, .pointer (some ⟨x, 0, none⟩))] ?_ ?_ (fun j r ds m' H' => ∃ (q : Nat) (next : Nat) (c : Option Addr) (cp : Nat) (B : Bld) (k : Nat) (pre : List Atm) (xs : List Atm), j = M.length + 1 - q ∧ r = [(19, .int .i64 (q : Int)), (18, .int .i64 (next : Int)), (17, .pointer (some ⟨bm, 0, none⟩)), (14, .slice cl M.length pl), (13, .pointer (some ⟨y, 0, none⟩)), (12, .pointer (some ⟨x, 0, none⟩))] ∧ ds = [] ∧ m = m' ∧ H' = .blk bm (.cells [.slice c B.l.length cp, str B.p, str B.d].toArray 109 (0, 0)) :: .row c cp 84 3 (B.l.map Stp.cs) :: .row cl pl 107 2 (M.map mV) :: .blk x (.cells [.slice (some ⟨q2, 0, none⟩) PX.length PX.length, .slice (some ⟨q4, 0, none⟩) DX.length DX.length, .slice (some ⟨q6, 0, none⟩) BX.length BX.length].toArray 92 (0, 0)) :: .row (some ⟨q2, 0, none⟩) PX.length 9 1 (PX.map sV) :: .row (some ⟨q4, 0, none⟩) DX.length 4 1 (DX.map oV) :: .row (some ⟨q6, 0, none⟩) BX.length 5 1 (BX.map uV) :: .blk y (.cells [.slice (some ⟨z2, 0, none⟩) PY.length PY.length, .slice (some ⟨z4, 0, none⟩) DY.length DY.length, .slice (some ⟨z6, 0, none⟩) BY.length BY.length].toArray 92 (0, 0)) :: .row (some ⟨z2, 0, none⟩) PY.length 9 1 (PY.map sV) :: .row (some ⟨z4, 0, none⟩) DY.length 4 1 (DY.map oV) :: .row (some ⟨z6, 0, none⟩) BY.length 5 1 (BY.map uV) :: H ∧ (A = pre ++ xs) ∧ (q = toA pre) ∧ (next ≤ fromA pre) ∧ (BFit k B) ∧ (k + 4 * ((sdA (YP.drop q) YL).length + xs.length + (fromA pre - next)) ≤ 10000000) ∧ (cmpT ⟨B.l, B.p, B.d ++ (BX.take (fromA pre)).drop next⟩ xs (sdA (YP.drop q) YL) = cmpT Bld.start A (sdA YP YL))) (M.length + 1 - (0)) ⟨0, 0, none, 0, Bld.start, 0, [], A, rfl, rfl, rfl, rfl, rfl, rfl, rfl, Nat.le_refl _, BFit.start, by rw [List.drop_zero]; simp only [fromA]; omega, by simp [fromA, Bld.start]⟩ ?_
        · (repeat (first | exact Env.Sub.nil | refine Env.Sub.cons rfl ?_))
        · exact zpk
        rintro j r ds m' H' ⟨q, next, c, cp, B, k, pre, xs, rfl, rfl, rfl, rfl, rfl, hA, hq, hnx, hB, hk, ht⟩
        have hAs : toA A = toA pre + toA xs := by rw [hA, toA_append]
        have hAf : fromA A = fromA pre + fromA xs := by rw [hA, fromA_append]
        have hqp : q < PY.length := by omega
        have hgp : (PY.map sV)[q]? = some [str PY[q]] := by rw [List.getElem?_map, List.getElem?_eq_getElem hqp]; rfl
        have hBp := hB.p
        have hBd := hB.d
        have hBl3 := hB.len
        by_cases hlt : q < M.length
        · have hqd : q < DY.length := by omega
          have hqb : q < BY.length := by omega
          have hgd : (DY.map oV)[q]? = some [.bool DY[q]] := by rw [List.getElem?_map, List.getElem?_eq_getElem hqd]; rfl
          have hgb : (BY.map uV)[q]? = some [.int .u8 (BY[q].toNat : Int)] := by rw [List.getElem?_map, List.getElem?_eq_getElem hqb]; rfl
          have eY : YP.drop q = (PY[q], DY[q], BY[q]) :: YP.drop (q + 1) := by
            rw [List.drop_eq_getElem_cons (by omega)]
            congr 1
            subst hpb
            simp
          refine WC.rowSome (a := cl) (es := M.map mV) zhs (by omega) ?_
          rintro cl0 rfl
          rw [eY, sdA_cons] at hk ht
          rw [cmpT_p] at ht
          dsimp only at hk ht
          simp only [List.length_append, List.length_map, List.length_cons] at hk
          rcases split_mid xs with ⟨ds, rfl⟩ | ⟨ds, rest, rfl⟩ | ⟨ds, d, rest, rfl⟩
          · rw [toA_d] at hAs; omega
          · have hgm : (M.map mV)[q]? = some [.int .i64 ((fromA pre + ds.length : Nat) : Int), .int .u8 0] := by
              rw [List.getElem?_map, ← hMM, hq, mids_atk hA]; rfl
            rw [cmpT_d _ _ _ _ (by cases DY[q] <;> rfl)] at ht
            dsimp only at ht
            have hpm := pend_more (rest := .k :: rest) hA hnx
            rw [hba] at hpm
            rw [List.append_assoc, ← hpm] at ht
            have hpre : fromA (pre ++ ds.map .d ++ [.k]) = fromA pre + ds.length + 1 := by rw [fromA_append, fromA_append, fromA_d]; rfl
            have htopre : toA (pre ++ ds.map .d ++ [.k]) = toA pre + 1 := by rw [toA_append, toA_append, toA_d]; rfl
            simp only [List.length_append, List.length_map, List.length_cons] at hk
            rw [fromA_append, fromA_d, show fromA (.k :: rest) = fromA rest + 1 from rfl] at hAf
            have hBXl : BX.length = fromA A := by omega
            generalize hAt : fromA pre + ds.length = At at *
            have hpq : (B.p ++ PY[q]).length ≤ 100000000 := by rw [List.length_append]; omega
            (try (refine st_E16_1 ?_; intros))
            refine WC.loopH [(18, .int .i64 ((next) : Int)), (19, .int .i64 (q : Int)), (17, .pointer (some ⟨bm, 0, none⟩)), (14, .slice (some cl0) M.length pl), (13, .pointer (some ⟨y, 0, none⟩)), (12, .pointer (some ⟨x, 0, none⟩))] ?_ ?_ (fun j r ds m' H' => ∃ (nx : Nat) (D : List UInt8), j = At - nx ∧ r = [(18, .int .i64 (nx : Int)), (19, .int .i64 (q : Int)), (17, .pointer (some ⟨bm, 0, none⟩)), (14, .slice (some cl0) M.length pl), (13, .pointer (some ⟨y, 0, none⟩)), (12, .pointer (some ⟨x, 0, none⟩))] ∧ ds = [] ∧ m = m' ∧ H' = .blk bm (.cells [.slice c B.l.length cp, str (B.p ++ PY[q]), str D].toArray 109 (0, 0)) :: .row c cp 84 3 (B.l.map Stp.cs) :: .row (some cl0) pl 107 2 (M.map mV) :: .blk x (.cells [.slice (some ⟨q2, 0, none⟩) PX.length PX.length, .slice (some ⟨q4, 0, none⟩) DX.length DX.length, .slice (some ⟨q6, 0, none⟩) BX.length BX.length].toArray 92 (0, 0)) :: .row (some ⟨q2, 0, none⟩) PX.length 9 1 (PX.map sV) :: .row (some ⟨q4, 0, none⟩) DX.length 4 1 (DX.map oV) :: .row (some ⟨q6, 0, none⟩) BX.length 5 1 (BX.map uV) :: .blk y (.cells [.slice (some ⟨z2, 0, none⟩) PY.length PY.length, .slice (some ⟨z4, 0, none⟩) DY.length DY.length, .slice (some ⟨z6, 0, none⟩) BY.length BY.length].toArray 92 (0, 0)) :: .row (some ⟨z2, 0, none⟩) PY.length 9 1 (PY.map sV) :: .row (some ⟨z4, 0, none⟩) DY.length 4 1 (DY.map oV) :: .row (some ⟨z6, 0, none⟩) BY.length 5 1 (BY.map uV) :: H ∧ (next ≤ nx ∧ nx ≤ At) ∧ (D = B.d ++ (BX.take nx).drop next)) (At - (next)) ⟨next, B.d, rfl, rfl, rfl, rfl, rfl, by omega, by rw [List.drop_take, Nat.sub_self, List.take_zero, List.append_nil]⟩ ?_
            · (repeat (first | exact Env.Sub.nil | refine Env.Sub.cons rfl ?_))
            · exact zpk
            rintro j r ds m' H' ⟨nx, D, rfl, rfl, rfl, rfl, rfl, hj, hD⟩
            have hDl : D.length = B.d.length + (nx - next) := by rw [hD]; simp only [List.length_append, List.length_drop, List.length_take]; omega
            by_cases hjl : nx < At
            · have hnb : nx < BX.length := by omega
              have hgx : (BX.map uV)[nx]? = some [.int .u8 (BX[nx].toNat : Int)] := by rw [List.getElem?_map, List.getElem?_eq_getElem hnb]; rfl
              (try (refine st_E16_1 ?_; intros))
              refine w_callF Try.func49 ?_ (hs := mdrop_any ⟨B.l, B.p ++ PY[q], D⟩ BX[nx] (by simp only; omega) _ _ _)
              rintro v m H1 ⟨rfl, rfl, rfl⟩
              (try (refine st_E16_1 ?_; intros))
              refine WQ.next (At - (nx + 1)) ⟨nx + 1, D ++ [BX[nx]], rfl, rfl, rfl, rfl, rfl, ?_, ?_⟩ (by omega) zsb zpk
              · omega
              · rw [hD, List.take_succ_eq_append_getElem hnb, List.drop_append_of_le_length (by rw [List.length_take]; omega), List.append_assoc]
            · obtain rfl : nx = At := by omega
              have hB1 : BFit (k + PY[q].length + (nx - next)) ⟨B.l, B.p ++ PY[q], D⟩ := ⟨by simp only; omega, fun s hs => by have := hB.k s hs; omega, by simp only [List.length_append]; omega, by simp only; omega⟩
              rw [← hD] at ht
              have hz : (BX.take (nx + 1)).drop (nx + 1) = [] := by rw [List.drop_take, Nat.sub_self, List.take_zero]
              cases hdq : DY[q] with
              | true =>
                rw [hdq] at hgd ht
                simp only [if_true] at ht
                rw [cmpT_kd] at ht
                dsimp only at ht
                (try (refine st_E16_1 ?_; intros))
                refine w_callF Try.func49 ?_ (hs := mdrop_any ⟨B.l, B.p ++ PY[q], D⟩ BY[q] (by simp only; omega) _ _ _)
                rintro v m H1 ⟨rfl, rfl, rfl⟩
                (try (refine st_E16_1 ?_; intros))
                refine WQ.next (M.length + 1 - (q + 1)) ⟨q + 1, nx + 1, c, cp, ⟨B.l, B.p ++ PY[q], D ++ [BY[q]]⟩, k + PY[q].length + (nx - next) + 1, pre ++ ds.map .d ++ [.k], rest, rfl, rfl, rfl, rfl, rfl, ?_, ?_, ?_, ?_, ?_, ?_⟩ (by omega) zsb zpk
                · rw [hA]; simp
                · rw [htopre, ← hq]
                · omega
                · exact ⟨by simp only; omega, fun s hs => by have := hB.k s hs; omega, by simp only [List.length_append]; omega, by simp only [List.length_append, List.length_singleton]; omega⟩
                · omega
                · rw [hpre, hz, List.append_nil]; exact ht
              | false =>
                rw [hdq] at hgd ht
                simp only [Bool.false_eq_true, if_false] at ht
                rw [cmpT_kk] at ht
                (try (refine st_E16_1 ?_; intros))
                refine w_callF Try.func50 ?_ (hs := mkeep_any ⟨B.l, B.p ++ PY[q], D⟩ 1 (by omega) (hB1.mono (by omega)) _ _ _)
                rintro v m H1 ⟨rfl, rfl, c2, cp2, rfl⟩
                (try (refine st_E16_1 ?_; intros))
                refine WQ.next (M.length + 1 - (q + 1)) ⟨q + 1, nx + 1, c2, cp2, (⟨B.l, B.p ++ PY[q], D⟩ : Bld).keep 1, k + PY[q].length + (nx - next) + 4, pre ++ ds.map .d ++ [.k], rest, rfl, rfl, rfl, rfl, rfl, ?_, ?_, ?_, ?_, ?_, ?_⟩ (by omega) zsb zpk
                · rw [hA]; simp
                · rw [htopre, ← hq]
                · omega
                · exact (hB1.keep (n := 1)).mono (by omega)
                · omega
                · rw [hpre, hz, List.append_nil]; exact ht
          · have hgm : (M.map mV)[q]? = some [.int .i64 (-1), .int .u8 (d.toNat : Int)] := by
              rw [List.getElem?_map, ← hMM, hq, mids_at hA]; rfl
            rw [cmpT_d _ _ _ _ (by cases DY[q] <;> rfl)] at ht
            dsimp only at ht
            have hpm := pend_more (rest := .p d :: rest) hA hnx
            rw [hba] at hpm
            rw [List.append_assoc, ← hpm] at ht
            have hpre : fromA (pre ++ ds.map .d ++ [.p d]) = fromA pre + ds.length := by rw [fromA_append, fromA_append, fromA_d]; rfl
            have htopre : toA (pre ++ ds.map .d ++ [.p d]) = toA pre + 1 := by rw [toA_append, toA_append, toA_d]; rfl
            simp only [List.length_append, List.length_map, List.length_cons] at hk
            cases hdq : DY[q] with
            | false =>
              rw [hdq] at hgd ht
              simp only [Bool.false_eq_true, if_false] at ht
              rw [cmpT_pk] at ht
              dsimp only at ht
              have hd1 : [d].length = 1 := rfl
              have hpq : (B.p ++ PY[q]).length ≤ 100000000 := by rw [List.length_append]; omega
              (try (refine st_E16_1 ?_; intros))
              refine WC.drawE 11 ([.blk bm (.cells [.slice c B.l.length cp, str (B.p ++ PY[q]), str B.d].toArray 109 (0, 0)), .row (some cl0) pl 107 2 (M.map mV)]) (.row c cp 84 3 (B.l.map Stp.cs) :: .blk x (.cells [.slice (some ⟨q2, 0, none⟩) PX.length PX.length, .slice (some ⟨q4, 0, none⟩) DX.length DX.length, .slice (some ⟨q6, 0, none⟩) BX.length BX.length].toArray 92 (0, 0)) :: .row (some ⟨q2, 0, none⟩) PX.length 9 1 (PX.map sV) :: .row (some ⟨q4, 0, none⟩) DX.length 4 1 (DX.map oV) :: .row (some ⟨q6, 0, none⟩) BX.length 5 1 (BX.map uV) :: .blk y (.cells [.slice (some ⟨z2, 0, none⟩) PY.length PY.length, .slice (some ⟨z4, 0, none⟩) DY.length DY.length, .slice (some ⟨z6, 0, none⟩) BY.length BY.length].toArray 92 (0, 0)) :: .row (some ⟨z2, 0, none⟩) PY.length 9 1 (PY.map sV) :: .row (some ⟨z4, 0, none⟩) DY.length 4 1 (DY.map oV) :: .row (some ⟨z6, 0, none⟩) BY.length 5 1 (BY.map uV) :: H) rfl (by decide +kernel) zpk ?_
              (refine cm_E16_1 ?_)
              refine WE.act1 7 (by decide +kernel) rfl rfl (fun c h => by cases h) ?_
              (refine st_E16_1 ?_; intros; rename_i qz)
              refine WQ.acted (B := [.blk qz (.cells [.int .u8 (d.toNat : Int)].toArray 5 (0, 0))]) (U := .row c cp 84 3 (B.l.map Stp.cs) :: .blk x (.cells [.slice (some ⟨q2, 0, none⟩) PX.length PX.length, .slice (some ⟨q4, 0, none⟩) DX.length DX.length, .slice (some ⟨q6, 0, none⟩) BX.length BX.length].toArray 92 (0, 0)) :: .row (some ⟨q2, 0, none⟩) PX.length 9 1 (PX.map sV) :: .row (some ⟨q4, 0, none⟩) DX.length 4 1 (DX.map oV) :: .row (some ⟨q6, 0, none⟩) BX.length 5 1 (BX.map uV) :: .blk y (.cells [.slice (some ⟨z2, 0, none⟩) PY.length PY.length, .slice (some ⟨z4, 0, none⟩) DY.length DY.length, .slice (some ⟨z6, 0, none⟩) BY.length BY.length].toArray 92 (0, 0)) :: .row (some ⟨z2, 0, none⟩) PY.length 9 1 (PY.map sV) :: .row (some ⟨z4, 0, none⟩) DY.length 4 1 (DY.map oV) :: .row (some ⟨z6, 0, none⟩) BY.length 5 1 (BY.map uV) :: H) rfl (Mem.le.refl _) zpk ?_
              (refine WE.calm 8 (by decide +kernel) rfl rfl (by decide +kernel) rfl (fun c h => by cases h) (by intro zm zF zle; refine WL.blkStr (s := [d]) rfl zhs rfl rfl rfl rfl rfl rfl rfl ?_; exact sq_E16_1) ?_)
              (refine WE.calm 9 (by decide +kernel) rfl rfl (by decide +kernel) rfl (fun c h => by cases h) (by intro zm zF zle; exact sq_E16_1) ?_)
              (refine WE.calm 10 (by decide +kernel) rfl rfl (by decide +kernel) rfl (fun c h => by cases h) (by intro zm zF zle; exact sq_E16_1) ?_)
              refine WE.done (by decide +kernel) ?_
              (try (refine st_E16_1 ?_; intros))
              refine WQ.next (M.length + 1 - (q + 1)) ⟨q + 1, next, c, cp, ⟨B.l, B.p ++ PY[q] ++ [d], B.d⟩, k + PY[q].length + 1, pre ++ ds.map .d ++ [.p d], rest, rfl, rfl, rfl, rfl, rfl, ?_, ?_, ?_, ?_, ?_, ?_⟩ (by omega) zsb zpk
              · rw [hA]; simp
              · rw [htopre, ← hq]
              · omega
              · exact ⟨by simp only; omega, fun s hs => by have := hB.k s hs; omega, by simp only [List.length_append, List.length_singleton]; omega, by simp only; omega⟩
              · omega
              · rw [hpre]; exact ht
            | true =>
              rw [hdq] at hgd ht
              simp only [if_true] at ht
              rw [cmpT_pd] at ht
              by_cases hdc : d = BY[q]
              · rw [if_pos hdc] at ht
                have hdc' : (BY[q].toNat : Int) = (d.toNat : Int) := by rw [hdc]
                (try (refine st_E16_1 ?_; intros))
                refine WQ.next (M.length + 1 - (q + 1)) ⟨q + 1, next, c, cp, ⟨B.l, B.p ++ PY[q], B.d⟩, k + PY[q].length, pre ++ ds.map .d ++ [.p d], rest, rfl, rfl, rfl, rfl, rfl, ?_, ?_, ?_, ?_, ?_, ?_⟩ (by omega) zsb zpk
                · rw [hA]; simp
                · rw [htopre, ← hq]
                · omega
                · exact ⟨by simp only; omega, fun s hs => by have := hB.k s hs; omega, by simp only [List.length_append]; omega, by simp only; omega⟩
                · omega
                · rw [hpre]; exact ht
              · rw [if_neg hdc] at ht
                have hdc' : ¬ (BY[q].toNat : Int) = (d.toNat : Int) := fun h => hdc (UInt8.toNat_inj.1 (by omega))
                have e : comP a b = .inl 270 := by rw [hcom, ← ht]
                rw [e]
                (try (refine st_E16_1 ?_; intros))
                exact q_fin0 (H0 := H) ⟨rfl, rfl, rfl⟩ (hd := zpk)
        · have hqe : q = M.length := by omega
          have eY : YP.drop q = [] := List.drop_eq_nil_of_le (by omega)
          have eL : YL = PY[q] := by
            rw [hlb, List.getD_eq_getElem?_getD, List.getElem?_eq_getElem (by omega), Option.getD_some]
            congr 1; omega
          rw [eY, sdA_nil] at hk ht
          rw [eL] at hk
          simp only [List.length_map] at hk
          have hxs : ∃ ds : List UInt8, xs = ds.map .d := by
            rcases split_mid xs with h | ⟨ds, rest, rfl⟩ | ⟨ds, d, rest, rfl⟩
            · exact h
            · rw [toA_append, show toA (.k :: rest) = toA rest + 1 from rfl] at hAs; omega
            · rw [toA_append, show toA (.p d :: rest) = toA rest + 1 from rfl] at hAs; omega
          obtain ⟨ds, rfl⟩ := hxs
          have ht2 := cmpT_p ⟨B.l, B.p, B.d ++ (BX.take (fromA pre)).drop next⟩ (ds.map .d) YL []
          rw [List.append_nil, ht, cmpT_end] at ht2
          dsimp only at ht2
          rw [fromA_d] at hAf
          have hBXl : BX.length = fromA A := by omega
          have hpm := pend_more (A := A) (ds := ds) (rest := []) (by rw [hA, List.append_nil]) hnx
          rw [hba, ← hAf, List.take_of_length_le (by omega)] at hpm
          rw [List.append_assoc, ← hpm, eL] at ht2
          have hpq : (B.p ++ PY[q]).length ≤ 100000000 := by rw [List.length_append]; omega
          have hcomE : comP a b = .inr (⟨B.l, B.p ++ PY[q], B.d ++ BX.drop next⟩ : Bld).close.l := by rw [hcom, eL, ht2]
          rw [hcomE]
          (try (refine st_E16_1 ?_; intros))
          refine WC.loopH [(18, .int .i64 ((next) : Int)), (17, .pointer (some ⟨bm, 0, none⟩)), (12, .pointer (some ⟨x, 0, none⟩))] ?_ ?_ (fun j r ds m' H' => ∃ (nx : Nat) (D : List UInt8), j = DX.length - nx ∧ r = [(18, .int .i64 (nx : Int)), (17, .pointer (some ⟨bm, 0, none⟩)), (12, .pointer (some ⟨x, 0, none⟩))] ∧ ds = [] ∧ m = m' ∧ H' = .blk bm (.cells [.slice c B.l.length cp, str (B.p ++ PY[q]), str D].toArray 109 (0, 0)) :: .row c cp 84 3 (B.l.map Stp.cs) :: .blk x (.cells [.slice (some ⟨q2, 0, none⟩) PX.length PX.length, .slice (some ⟨q4, 0, none⟩) DX.length DX.length, .slice (some ⟨q6, 0, none⟩) BX.length BX.length].toArray 92 (0, 0)) :: .row (some ⟨q2, 0, none⟩) PX.length 9 1 (PX.map sV) :: .row (some ⟨q4, 0, none⟩) DX.length 4 1 (DX.map oV) :: .row (some ⟨q6, 0, none⟩) BX.length 5 1 (BX.map uV) :: H ∧ (next ≤ nx ∧ nx ≤ DX.length) ∧ (D = B.d ++ (BX.take nx).drop next)) (DX.length - (next)) ⟨next, B.d, rfl, rfl, rfl, rfl, rfl, by omega, by rw [List.drop_take, Nat.sub_self, List.take_zero, List.append_nil]⟩ ?_
          · (repeat (first | exact Env.Sub.nil | refine Env.Sub.cons rfl ?_))
          · exact zpk
          rintro j r ds m' H' ⟨nx, D, rfl, rfl, rfl, rfl, rfl, hj, hD⟩
          have hDl : D.length = B.d.length + (nx - next) := by rw [hD]; simp only [List.length_append, List.length_drop, List.length_take]; omega
          by_cases hjl : nx < DX.length
          · have hnb : nx < BX.length := by omega
            have hgx : (BX.map uV)[nx]? = some [.int .u8 (BX[nx].toNat : Int)] := by rw [List.getElem?_map, List.getElem?_eq_getElem hnb]; rfl
            (try (refine st_E16_1 ?_; intros))
            refine w_callF Try.func49 ?_ (hs := mdrop_any ⟨B.l, B.p ++ PY[q], D⟩ BX[nx] (by simp only; omega) _ _ _)
            rintro v m H1 ⟨rfl, rfl, rfl⟩
            (try (refine st_E16_1 ?_; intros))
            refine WQ.next (DX.length - (nx + 1)) ⟨nx + 1, D ++ [BX[nx]], rfl, rfl, rfl, rfl, rfl, ?_, ?_⟩ (by omega) zsb zpk
            · omega
            · rw [hD, List.take_succ_eq_append_getElem hnb, List.drop_append_of_le_length (by rw [List.length_take]; omega), List.append_assoc]
          · obtain rfl : nx = DX.length := by omega
            rw [List.take_of_length_le (by omega)] at hD
            rw [← hD]
            (try (refine st_E16_1 ?_; intros))
            refine WL.heap (H' := .blk bm (.cells [.slice c B.l.length cp, str (B.p ++ PY[q]), str D].toArray 109 (0, 0)) :: .row c cp 84 3 (B.l.map Stp.cs) :: H) zpk ?_
            refine w_callF Try.func51 ?_ (hs := end_any ⟨B.l, B.p ++ PY[q], D⟩ (by simp only; omega) _ _ _)
            rintro v m H1 ⟨rfl, rfl, c2, cp2, rfl⟩
            (try (refine st_E16_1 ?_; intros))
            exact q_fin0 (H0 := .row c2 cp2 84 3 ((⟨B.l, B.p ++ PY[q], D⟩ : Bld).close.l.map Stp.cs) :: H) ⟨rfl, c2, cp2, rfl, rfl⟩ (hd := zpk)
  · have e : comP a b = .inl 5 := by simp only [comP, hsa, hsb]; rw [if_pos hmf]
    rw [e]
    (try (refine st_E16_1 ?_; intros))
    exact q_fin0 (H0 := H) ⟨rfl, rfl, rfl⟩ (hd := zpk)
end Go.Proofs.Ytelgegefmjlimaa

/-
  The walk of the reference's Carry: two changes carried over each other. No condition.
-/
namespace Go.Eng
open Go Go.RowKit
theorem bfit_put {N : Nat} {B : Bld} (h : BFit N B) (P : List UInt8) : BFit (N + P.length) ⟨B.l, B.p ++ P, B.d⟩ :=
  ⟨by have := h.len; simp only; omega, fun s hs => by have := h.k s hs; omega, by have := h.p; simp only [List.length_append]; omega, by have := h.d; simp only; omega⟩
theorem bfit_drop {N : Nat} {B : Bld} (h : BFit N B) (P : List UInt8) : BFit (N + P.length) ⟨B.l, B.p, B.d ++ P⟩ :=
  ⟨by have := h.len; simp only; omega, fun s hs => by have := h.k s hs; omega, by have := h.p; simp only; omega, by have := h.d; simp only [List.length_append]; omega⟩
theorem pos_drop {PX : List (List UInt8)} {DX : List Bool} {BX : List UInt8} {p : Nat} (h1 : BX.length = DX.length) (h2 : PX.length = DX.length + 1) (hp : p < DX.length) : (PX.zip (DX.zip BX)).drop p = (PX[p], DX[p], BX[p]) :: (PX.zip (DX.zip BX)).drop (p + 1) := by
  rw [List.drop_eq_getElem_cons (by simp only [List.length_zip]; omega)]
  simp
theorem getD_last {PX : List (List UInt8)} {N p : Nat} (hp : p = N) (h : p < PX.length) : PX.getD N [] = PX[p] := by
  subst hp
  rw [List.getD_eq_getElem?_getD, List.getElem?_eq_getElem h]; rfl
theorem pos_end {PX : List (List UInt8)} {DX : List Bool} {BX : List UInt8} {p : Nat} (h : DX.length ≤ p) : (PX.zip (DX.zip BX)).drop p = [] := List.drop_eq_nil_of_le (by simp only [List.length_zip]; omega)
/-- how much is left, place by place -/
theorem pos_less {PX : List (List UInt8)} {DX : List Bool} {BX : List UInt8} {p : Nat} (h1 : BX.length = DX.length) (h2 : PX.length = DX.length + 1) (hp : p < DX.length) :
    (sdA ((PX.zip (DX.zip BX)).drop p) (PX.getD DX.length [])).length = PX[p].length + 1 + (sdA ((PX.zip (DX.zip BX)).drop (p + 1)) (PX.getD DX.length [])).length := by
  rw [pos_drop h1 h2 hp, sdA_cons]
  simp only [List.length_append, List.length_map, List.length_cons]
  omega
theorem pos_left {PX : List (List UInt8)} {DX : List Bool} {BX : List UInt8} {p : Nat} (h1 : BX.length = DX.length) (h2 : PX.length = DX.length + 1) (hp : p < PX.length) : PX[p].length ≤ (sdA ((PX.zip (DX.zip BX)).drop p) (PX.getD DX.length [])).length := by
  by_cases h : p < DX.length
  · rw [pos_less h1 h2 h]; omega
  · rw [pos_end (by omega), sdA_nil, getD_last (by omega) hp, List.length_map]; exact Nat.le_refl _
end Go.Eng
namespace Go.Proofs.Ytelgegefmjlimaa
open Go Go.Eng
set_option maxRecDepth 100000
set_option maxHeartbeats 4000000
set_option linter.all false
attribute [local irreducible] WL WC WQ QFun QLoop Does Q1 QRound QAssign Go.Addr.add
attribute [local irreducible] sizesF sizesOf carT putsOf dropsOf bytesOf gapsOf
theorem sq_E20_1 {G : Prop} (h : G := by (repeat (first | (refine sp ?_; (repeat intro zzc)) | (refine iF 14 rfl ?_; refine w_callG Try.func14 ?_ (hs := refSizes_any (by assumption) _ _ _ (by assumption))))); exact WQ.q1 rfl) : G := h
theorem st_E20_1 {G G' : Prop} (next : G') (h : Bx G' → G := by intro zzn; (first | ((refine st ?_; (repeat intro zzc)); (try ((first | (refine iF 14 rfl ?_; refine w_callG Try.func14 ?_ (hs := refSizes_any (by assumption) _ _ _ (by assumption))) | ((refine iDraw ?_; (first | refine WC.drawAll rfl (by decide +kernel) ?_ | refine WC.draw 1 rfl (by decide +kernel) ?_ | refine WC.draw 2 rfl (by decide +kernel) ?_ | refine WC.draw 3 rfl (by decide +kernel) ?_ | refine WC.draw 4 rfl (by decide +kernel) ?_ | refine WC.draw 5 rfl (by decide +kernel) ?_ | refine WC.draw 6 rfl (by decide +kernel) ?_ | refine WC.draw 7 rfl (by decide +kernel) ?_ | refine WC.draw 8 rfl (by decide +kernel) ?_ | refine WC.draw 9 rfl (by decide +kernel) ?_ | refine WC.draw 10 rfl (by decide +kernel) ?_ | refine WC.draw 11 rfl (by decide +kernel) ?_ | refine WC.draw 12 rfl (by decide +kernel) ?_ | refine WC.draw 13 rfl (by decide +kernel) ?_ | refine WC.draw 14 rfl (by decide +kernel) ?_ | refine WC.draw 15 rfl (by decide +kernel) ?_ | refine WC.draw 16 rfl (by decide +kernel) ?_ | refine WC.draw 17 rfl (by decide +kernel) ?_ | refine WC.draw 18 rfl (by decide +kernel) ?_ | refine WC.draw 19 rfl (by decide +kernel) ?_ | refine WC.draw 20 rfl (by decide +kernel) ?_ | refine WC.draw 21 rfl (by decide +kernel) ?_ | refine WC.draw 22 rfl (by decide +kernel) ?_ | refine WC.draw 23 rfl (by decide +kernel) ?_ | refine WC.draw 24 rfl (by decide +kernel) ?_)); (repeat (refine WD.cons rfl (fun c h => by cases h) sq_E20_1 ?_)); refine WD.nil ?_)); (try (refine st ?_; (repeat intro zzc)))))) | ((first | (refine iF 14 rfl ?_; refine w_callG Try.func14 ?_ (hs := refSizes_any (by assumption) _ _ _ (by assumption))) | ((refine iDraw ?_; (first | refine WC.drawAll rfl (by decide +kernel) ?_ | refine WC.draw 1 rfl (by decide +kernel) ?_ | refine WC.draw 2 rfl (by decide +kernel) ?_ | refine WC.draw 3 rfl (by decide +kernel) ?_ | refine WC.draw 4 rfl (by decide +kernel) ?_ | refine WC.draw 5 rfl (by decide +kernel) ?_ | refine WC.draw 6 rfl (by decide +kernel) ?_ | refine WC.draw 7 rfl (by decide +kernel) ?_ | refine WC.draw 8 rfl (by decide +kernel) ?_ | refine WC.draw 9 rfl (by decide +kernel) ?_ | refine WC.draw 10 rfl (by decide +kernel) ?_ | refine WC.draw 11 rfl (by decide +kernel) ?_ | refine WC.draw 12 rfl (by decide +kernel) ?_ | refine WC.draw 13 rfl (by decide +kernel) ?_ | refine WC.draw 14 rfl (by decide +kernel) ?_ | refine WC.draw 15 rfl (by decide +kernel) ?_ | refine WC.draw 16 rfl (by decide +kernel) ?_ | refine WC.draw 17 rfl (by decide +kernel) ?_ | refine WC.draw 18 rfl (by decide +kernel) ?_ | refine WC.draw 19 rfl (by decide +kernel) ?_ | refine WC.draw 20 rfl (by decide +kernel) ?_ | refine WC.draw 21 rfl (by decide +kernel) ?_ | refine WC.draw 22 rfl (by decide +kernel) ?_ | refine WC.draw 23 rfl (by decide +kernel) ?_ | refine WC.draw 24 rfl (by decide +kernel) ?_)); (repeat (refine WD.cons rfl (fun c h => by cases h) sq_E20_1 ?_)); refine WD.nil ?_)); (try (refine st ?_; (repeat intro zzc))))); (repeat ((first | (refine iF 14 rfl ?_; refine w_callG Try.func14 ?_ (hs := refSizes_any (by assumption) _ _ _ (by assumption))) | ((refine iDraw ?_; (first | refine WC.drawAll rfl (by decide +kernel) ?_ | refine WC.draw 1 rfl (by decide +kernel) ?_ | refine WC.draw 2 rfl (by decide +kernel) ?_ | refine WC.draw 3 rfl (by decide +kernel) ?_ | refine WC.draw 4 rfl (by decide +kernel) ?_ | refine WC.draw 5 rfl (by decide +kernel) ?_ | refine WC.draw 6 rfl (by decide +kernel) ?_ | refine WC.draw 7 rfl (by decide +kernel) ?_ | refine WC.draw 8 rfl (by decide +kernel) ?_ | refine WC.draw 9 rfl (by decide +kernel) ?_ | refine WC.draw 10 rfl (by decide +kernel) ?_ | refine WC.draw 11 rfl (by decide +kernel) ?_ | refine WC.draw 12 rfl (by decide +kernel) ?_ | refine WC.draw 13 rfl (by decide +kernel) ?_ | refine WC.draw 14 rfl (by decide +kernel) ?_ | refine WC.draw 15 rfl (by decide +kernel) ?_ | refine WC.draw 16 rfl (by decide +kernel) ?_ | refine WC.draw 17 rfl (by decide +kernel) ?_ | refine WC.draw 18 rfl (by decide +kernel) ?_ | refine WC.draw 19 rfl (by decide +kernel) ?_ | refine WC.draw 20 rfl (by decide +kernel) ?_ | refine WC.draw 21 rfl (by decide +kernel) ?_ | refine WC.draw 22 rfl (by decide +kernel) ?_ | refine WC.draw 23 rfl (by decide +kernel) ?_ | refine WC.draw 24 rfl (by decide +kernel) ?_)); (repeat (refine WD.cons rfl (fun c h => by cases h) sq_E20_1 ?_)); refine WD.nil ?_)); (try (refine st ?_; (repeat intro zzc))))); (repeat revert zzc); exact zzn.out) : G := h ⟨next⟩
theorem rCarry_any {pa pb : Option Addr} {ca cb : Nat} {a b : List Stp} {fa ta fb tb : Int} (hfa : Fit a) (hfb : Fit b) (hsa : sizesOf a = some (fa, ta)) (hsb : sizesOf b = some (fb, tb)) (w0 : World) (m : Mem) (H : SHeap) (hra : RowR w0 m H 3 pa (a.map Stp.cs)) (hrb : RowR w0 m H 3 pb (b.map Stp.cs)) :
    Does Try.prog 28 #[.slice pa a.length ca, .slice pb b.length cb] w0 m H (PairP 84 (carP a b) .i64 m H) := by
  refine Does.of_body (args := [.slice pa a.length ca, .slice pb b.length cb]) Try.func28 rfl Try.ntmps28 rfl ?_
  have e2 : szR (sizesOf a) = .tuple #[.int .i64 fa, .int .i64 ta, .bool true] := by rw [hsa]; rfl
  have e3 : szR (sizesOf b) = .tuple #[.int .i64 fb, .int .i64 tb, .bool true] := by rw [hsb]; rfl
  obtain ⟨hoka, hal, hpla, hfra, htoa, _, _, _, _⟩ := sized hsa
  obtain ⟨hokb, hbl, hplb, hfrb, htob, _, _, _, _⟩ := sized hsb
  (try (refine st_E20_1 ?_; intros))
  rw [e2]
  (try (refine st_E20_1 ?_; intros))
  rw [e3]
  by_cases hmf : fa = fb
  · (try (refine st_E20_1 ?_; intros))
    refine w_callF Try.func43 ?_ (hs := say_any hfa hsa _ _ _ hra)
    rintro _ m _ ⟨rfl, q2, q4, q6, rfl, rfl⟩
    (try (refine st_E20_1 ?_; intros))
    refine w_callF Try.func43 ?_ (hs := say_any hfb hsb _ _ _ hrb.more.more.more)
    rintro _ m _ ⟨rfl, z2, z4, z6, rfl, rfl⟩
    have hda := drops_from a hoka
    have hdb := drops_from b hokb
    obtain ⟨la1, la2⟩ := said_len (gapsOf a)
    obtain ⟨lb1, lb2⟩ := said_len (gapsOf b)
    have hpa : posOf (gapsOf a) = (putsOf (gapsOf a)).zip ((dropsOf (gapsOf a)).zip (bytesOf (gapsOf a))) := rfl
    have hlaa : lastOf (gapsOf a) = (putsOf (gapsOf a)).getD (dropsOf (gapsOf a)).length [] := rfl
    have hpb : posOf (gapsOf b) = (putsOf (gapsOf b)).zip ((dropsOf (gapsOf b)).zip (bytesOf (gapsOf b))) := rfl
    have hlb : lastOf (gapsOf b) = (putsOf (gapsOf b)).getD (dropsOf (gapsOf b)).length [] := rfl
    have hla2 : (sdA (posOf (gapsOf a)) (lastOf (gapsOf a))).length ≤ 200000 := by rw [sd_atoms]; have := (nf_len hsa).1; omega
    have hlb2 : (sdA (posOf (gapsOf b)) (lastOf (gapsOf b))).length ≤ 200000 := by rw [sd_atoms]; have := (nf_len hsb).1; omega
    have hcom : carP a b = match carT Bld.start Bld.start 0 (sdA (posOf (gapsOf a)) (lastOf (gapsOf a))) (sdA (posOf (gapsOf b)) (lastOf (gapsOf b))) with
        | none => .inl 270
        | some (u, v, n) => if 65536 < n then .inl 3 else .inr (u, v) := by
      simp only [carP, hsa, hsb]
      rw [if_neg (fun h => h hmf), sd_atoms, sd_atoms]
      cases carT Bld.start Bld.start 0 (nfOf (gapsOf a)) (nfOf (gapsOf b)) <;> rfl
    generalize putsOf (gapsOf a) = PX at *
    generalize dropsOf (gapsOf a) = DX at *
    generalize bytesOf (gapsOf a) = BX at *
    generalize putsOf (gapsOf b) = PY at *
    generalize dropsOf (gapsOf b) = DY at *
    generalize bytesOf (gapsOf b) = BY at *
    generalize posOf (gapsOf a) = XP at *
    generalize lastOf (gapsOf a) = XL at *
    generalize posOf (gapsOf b) = YP at *
    generalize lastOf (gapsOf b) = YL at *
    have hPl : (PX.map sV).length = PX.length := by simp
    have hDl : (DX.map oV).length = DX.length := by simp
    have hBl : (BX.map uV).length = BX.length := by simp
    have hPl2 : (PY.map sV).length = PY.length := by simp
    have hDl2 : (DY.map oV).length = DY.length := by simp
    have hBl2 : (BY.map uV).length = BY.length := by simp
    have hDD : DX.length = DY.length := by omega
    subst hpa
    subst hlaa
    subst hpb
    subst hlb
    have hfN : fa = (DX.length : Int) := by omega
    have hDle : DX.length ≤ 65536 := by omega
    rw [hfN]
    clear hsa hsb e2 e3 hoka hokb hal hbl hpla hplb hfra hfrb htoa htob hda hdb hfN hmf hra hrb
    (refine st_E20_1 ?_; intros; rename_i x y bu bv)
    refine WC.newRow (T := 84) (sz := 3) ?_
    refine WC.newRow (T := 84) (sz := 3) ?_
    refine WC.loopH [(18, .int .i64 ((0) : Int)), (17, .int .i64 ((0) : Int)), (7, .int .i64 (DX.length : Int)), (13, .pointer (some ⟨x, 0, none⟩)), (14, .pointer (some ⟨y, 0, none⟩)), (15, .pointer (some ⟨bu, 0, none⟩)), (16, .pointer (some ⟨bv, 0, none⟩))] ?_ ?_ (fun j r ds m' H' => ∃ (p : Nat) (cu : Option Addr) (cpu : Nat) (U : Bld) (cv : Option Addr) (cpv : Nat) (V : Bld) (al : Nat) (k : Nat), j = DX.length + 1 - p ∧ r = [(18, .int .i64 (p : Int)), (17, .int .i64 (al : Int)), (7, .int .i64 (DX.length : Int)), (13, .pointer (some ⟨x, 0, none⟩)), (14, .pointer (some ⟨y, 0, none⟩)), (15, .pointer (some ⟨bu, 0, none⟩)), (16, .pointer (some ⟨bv, 0, none⟩))] ∧ ds = [] ∧ m = m' ∧ H' = .blk bu (.cells [.slice cu U.l.length cpu, str U.p, str U.d].toArray 109 (0, 0)) :: .row cu cpu 84 3 (U.l.map Stp.cs) :: .blk bv (.cells [.slice cv V.l.length cpv, str V.p, str V.d].toArray 109 (0, 0)) :: .row cv cpv 84 3 (V.l.map Stp.cs) :: .blk x (.cells [.slice (some ⟨q2, 0, none⟩) PX.length PX.length, .slice (some ⟨q4, 0, none⟩) DX.length DX.length, .slice (some ⟨q6, 0, none⟩) BX.length BX.length].toArray 92 (0, 0)) :: .row (some ⟨q2, 0, none⟩) PX.length 9 1 (PX.map sV) :: .row (some ⟨q4, 0, none⟩) DX.length 4 1 (DX.map oV) :: .row (some ⟨q6, 0, none⟩) BX.length 5 1 (BX.map uV) :: .blk y (.cells [.slice (some ⟨z2, 0, none⟩) PY.length PY.length, .slice (some ⟨z4, 0, none⟩) DY.length DY.length, .slice (some ⟨z6, 0, none⟩) BY.length BY.length].toArray 92 (0, 0)) :: .row (some ⟨z2, 0, none⟩) PY.length 9 1 (PY.map sV) :: .row (some ⟨z4, 0, none⟩) DY.length 4 1 (DY.map oV) :: .row (some ⟨z6, 0, none⟩) BY.length 5 1 (BY.map uV) :: H ∧ (p ≤ DX.length) ∧ (BFit k U) ∧ (BFit k V) ∧ (k + 4 * ((sdA ((PX.zip (DX.zip BX)).drop p) (PX.getD DX.length [])).length + (sdA ((PY.zip (DY.zip BY)).drop p) (PY.getD DY.length [])).length) ≤ 10000000 ∧ al ≤ k) ∧ (carT U V al (sdA ((PX.zip (DX.zip BX)).drop p) (PX.getD DX.length [])) (sdA ((PY.zip (DY.zip BY)).drop p) (PY.getD DY.length [])) = carT Bld.start Bld.start 0 (sdA (PX.zip (DX.zip BX)) (PX.getD DX.length [])) (sdA (PY.zip (DY.zip BY)) (PY.getD DY.length [])))) (DX.length + 1 - (0)) ⟨0, none, 0, Bld.start, none, 0, Bld.start, 0, 0, rfl, rfl, rfl, rfl, rfl, by omega, BFit.start, BFit.start, by rw [List.drop_zero, List.drop_zero]; omega, by rw [List.drop_zero, List.drop_zero]⟩ ?_
    · (repeat (first | exact Env.Sub.nil | refine Env.Sub.cons rfl ?_))
    · exact zpk
    rintro j r ds m' H' ⟨p, cu, cpu, U, cv, cpv, V, al, k, rfl, rfl, rfl, rfl, rfl, hp, hU, hV, hk, ht⟩
    have hpx : p < PX.length := by omega
    have hpy : p < PY.length := by omega
    have hgx : (PX.map sV)[p]? = some [str PX[p]] := by rw [List.getElem?_map, List.getElem?_eq_getElem hpx]; rfl
    have hgy : (PY.map sV)[p]? = some [str PY[p]] := by rw [List.getElem?_map, List.getElem?_eq_getElem hpy]; rfl
    have hUp := hU.p
    have hVp := hV.p
    have eal : (al : Int) + (PX[p].length : Int) + (PY[p].length : Int) = ((al + PX[p].length + PY[p].length : Nat) : Int) := by omega
    have hU1 := bfit_put hU PX[p]
    have hU2 := hU1.keep (n := PY[p].length)
    have hV1 := hV.keep (n := PX[p].length)
    have hV2 := bfit_put hV1 PY[p]
    have hbx := pos_left la1 la2 hpx
    have hby := pos_left lb1 lb2 hpy
    have hbk : PX[p].length ≤ 10000000 ∧ PY[p].length ≤ 10000000 := by omega
    (try (refine st_E20_1 ?_; intros))
    refine WL.heap (H' := .blk bv (.cells [.slice cv V.l.length cpv, str V.p, str V.d].toArray 109 (0, 0)) :: .row cv cpv 84 3 (V.l.map Stp.cs) :: .blk bu (.cells [.slice cu U.l.length cpu, str (U.p ++ PX[p]), str U.d].toArray 109 (0, 0)) :: .row cu cpu 84 3 (U.l.map Stp.cs) :: .blk x (.cells [.slice (some ⟨q2, 0, none⟩) PX.length PX.length, .slice (some ⟨q4, 0, none⟩) DX.length DX.length, .slice (some ⟨q6, 0, none⟩) BX.length BX.length].toArray 92 (0, 0)) :: .row (some ⟨q2, 0, none⟩) PX.length 9 1 (PX.map sV) :: .row (some ⟨q4, 0, none⟩) DX.length 4 1 (DX.map oV) :: .row (some ⟨q6, 0, none⟩) BX.length 5 1 (BX.map uV) :: .blk y (.cells [.slice (some ⟨z2, 0, none⟩) PY.length PY.length, .slice (some ⟨z4, 0, none⟩) DY.length DY.length, .slice (some ⟨z6, 0, none⟩) BY.length BY.length].toArray 92 (0, 0)) :: .row (some ⟨z2, 0, none⟩) PY.length 9 1 (PY.map sV) :: .row (some ⟨z4, 0, none⟩) DY.length 4 1 (DY.map oV) :: .row (some ⟨z6, 0, none⟩) BY.length 5 1 (BY.map uV) :: H) zpk ?_
    refine w_callF Try.func50 ?_ (hs := mkeep_any V PX[p].length (by omega) (hV.mono (by omega)) _ _ _)
    rintro v m H1 ⟨rfl, rfl, cv2, cpv2, rfl⟩
    generalize hV1e : V.keep (PX[p].length : Int) = V1 at *
    (try (refine st_E20_1 ?_; intros))
    refine WL.heap (H' := .blk bu (.cells [.slice cu U.l.length cpu, str (U.p ++ PX[p]), str U.d].toArray 109 (0, 0)) :: .row cu cpu 84 3 (U.l.map Stp.cs) :: .blk bv (.cells [.slice cv2 V1.l.length cpv2, str V1.p, str V1.d].toArray 109 (0, 0)) :: .row cv2 cpv2 84 3 (V1.l.map Stp.cs) :: .blk x (.cells [.slice (some ⟨q2, 0, none⟩) PX.length PX.length, .slice (some ⟨q4, 0, none⟩) DX.length DX.length, .slice (some ⟨q6, 0, none⟩) BX.length BX.length].toArray 92 (0, 0)) :: .row (some ⟨q2, 0, none⟩) PX.length 9 1 (PX.map sV) :: .row (some ⟨q4, 0, none⟩) DX.length 4 1 (DX.map oV) :: .row (some ⟨q6, 0, none⟩) BX.length 5 1 (BX.map uV) :: .blk y (.cells [.slice (some ⟨z2, 0, none⟩) PY.length PY.length, .slice (some ⟨z4, 0, none⟩) DY.length DY.length, .slice (some ⟨z6, 0, none⟩) BY.length BY.length].toArray 92 (0, 0)) :: .row (some ⟨z2, 0, none⟩) PY.length 9 1 (PY.map sV) :: .row (some ⟨z4, 0, none⟩) DY.length 4 1 (DY.map oV) :: .row (some ⟨z6, 0, none⟩) BY.length 5 1 (BY.map uV) :: H) zpk ?_
    refine w_callF Try.func50 ?_ (hs := mkeep_any ⟨U.l, U.p ++ PX[p], U.d⟩ PY[p].length (by omega) (hU1.mono (by omega)) _ _ _)
    rintro v m H1 ⟨rfl, rfl, cu2, cpu2, rfl⟩
    generalize hU2e : (⟨U.l, U.p ++ PX[p], U.d⟩ : Bld).keep (PY[p].length : Int) = U2 at *
    have hV1p := hV1.p
    by_cases hlt : p < DX.length
    · have hxd : p < DX.length := hlt
      have hyd : p < DY.length := by omega
      have hxb : p < BX.length := by omega
      have hyb : p < BY.length := by omega
      have gxd : (DX.map oV)[p]? = some [.bool DX[p]] := by rw [List.getElem?_map, List.getElem?_eq_getElem hxd]; rfl
      have gyd : (DY.map oV)[p]? = some [.bool DY[p]] := by rw [List.getElem?_map, List.getElem?_eq_getElem hyd]; rfl
      have gxb : (BX.map uV)[p]? = some [.int .u8 (BX[p].toNat : Int)] := by rw [List.getElem?_map, List.getElem?_eq_getElem hxb]; rfl
      have gyb : (BY.map uV)[p]? = some [.int .u8 (BY[p].toNat : Int)] := by rw [List.getElem?_map, List.getElem?_eq_getElem hyb]; rfl
      rw [pos_drop la1 la2 hxd, pos_drop lb1 lb2 hyd, car_pos] at ht
      rw [pos_less la1 la2 hxd, pos_less lb1 lb2 hyd] at hk
      dsimp only at ht
      rw [hV1e, hU2e] at ht
      have hU2d := hU2.d
      cases hdx : DX[p] with
      | true =>
        rw [hdx] at gxd ht
        cases hdy : DY[p] with
        | true =>
          rw [hdy] at gyd ht
          simp only [and_self, if_true] at ht
          by_cases hb : BX[p] = BY[p]
          · rw [if_pos hb] at ht
            have hb' : (BX[p].toNat : Int) = (BY[p].toNat : Int) := by rw [hb]
            (try (refine st_E20_1 ?_; intros))
            rw [eal]
            refine WQ.next (DX.length + 1 - (p + 1)) ⟨p + 1, cu2, cpu2, U2, cv2, cpv2, ⟨V1.l, V1.p ++ PY[p], V1.d⟩, al + PX[p].length + PY[p].length, k + PX[p].length + PY[p].length + 7, rfl, rfl, rfl, rfl, rfl, ?_, ?_, ?_, ?_, ?_⟩ (by omega) zsb zpk
            · omega
            · exact hU2.mono (by omega)
            · exact hV2.mono (by omega)
            · omega
            · exact ht
          · rw [if_neg hb] at ht
            have hb' : ¬ (BX[p].toNat : Int) = (BY[p].toNat : Int) := fun h => hb (UInt8.toNat_inj.1 (by omega))
            have e : carP a b = .inl 270 := by rw [hcom, ← ht]
            rw [e]
            (try (refine st_E20_1 ?_; intros))
            exact q_fin0 (H0 := H) ⟨rfl, rfl, rfl⟩ (hd := zpk)
        | false =>
          rw [hdy] at gyd ht
          simp only [Bool.false_eq_true, and_false, if_false, if_true] at ht
          (try (refine st_E20_1 ?_; intros))
          refine WL.heap (H' := .blk bu (.cells [.slice cu2 U2.l.length cpu2, str U2.p, str U2.d].toArray 109 (0, 0)) :: .row cu2 cpu2 84 3 (U2.l.map Stp.cs) :: .blk bv (.cells [.slice cv2 V1.l.length cpv2, str (V1.p ++ PY[p]), str V1.d].toArray 109 (0, 0)) :: .row cv2 cpv2 84 3 (V1.l.map Stp.cs) :: .blk x (.cells [.slice (some ⟨q2, 0, none⟩) PX.length PX.length, .slice (some ⟨q4, 0, none⟩) DX.length DX.length, .slice (some ⟨q6, 0, none⟩) BX.length BX.length].toArray 92 (0, 0)) :: .row (some ⟨q2, 0, none⟩) PX.length 9 1 (PX.map sV) :: .row (some ⟨q4, 0, none⟩) DX.length 4 1 (DX.map oV) :: .row (some ⟨q6, 0, none⟩) BX.length 5 1 (BX.map uV) :: .blk y (.cells [.slice (some ⟨z2, 0, none⟩) PY.length PY.length, .slice (some ⟨z4, 0, none⟩) DY.length DY.length, .slice (some ⟨z6, 0, none⟩) BY.length BY.length].toArray 92 (0, 0)) :: .row (some ⟨z2, 0, none⟩) PY.length 9 1 (PY.map sV) :: .row (some ⟨z4, 0, none⟩) DY.length 4 1 (DY.map oV) :: .row (some ⟨z6, 0, none⟩) BY.length 5 1 (BY.map uV) :: H) zpk ?_
          refine w_callF Try.func49 ?_ (hs := mdrop_any U2 BX[p] (by omega) _ _ _)
          rintro v m H1 ⟨rfl, rfl, rfl⟩
          (try (refine st_E20_1 ?_; intros))
          rw [eal]
          refine WQ.next (DX.length + 1 - (p + 1)) ⟨p + 1, cu2, cpu2, ⟨U2.l, U2.p, U2.d ++ [BX[p]]⟩, cv2, cpv2, ⟨V1.l, V1.p ++ PY[p], V1.d⟩, al + PX[p].length + PY[p].length, k + PX[p].length + PY[p].length + 7, rfl, rfl, rfl, rfl, rfl, ?_, ?_, ?_, ?_, ?_⟩ (by omega) zsb zpk
          · omega
          · exact (bfit_drop hU2 [BX[p]]).mono (by simp only [List.length_singleton]; omega)
          · exact hV2.mono (by omega)
          · omega
          · exact ht
      | false =>
        rw [hdx] at gxd ht
        cases hdy : DY[p] with
        | true =>
          rw [hdy] at gyd ht
          simp only [Bool.false_eq_true, false_and, if_false, if_true] at ht
          (try (refine st_E20_1 ?_; intros))
          refine WL.heap (H' := .blk bv (.cells [.slice cv2 V1.l.length cpv2, str (V1.p ++ PY[p]), str V1.d].toArray 109 (0, 0)) :: .row cv2 cpv2 84 3 (V1.l.map Stp.cs) :: .blk bu (.cells [.slice cu2 U2.l.length cpu2, str U2.p, str U2.d].toArray 109 (0, 0)) :: .row cu2 cpu2 84 3 (U2.l.map Stp.cs) :: .blk x (.cells [.slice (some ⟨q2, 0, none⟩) PX.length PX.length, .slice (some ⟨q4, 0, none⟩) DX.length DX.length, .slice (some ⟨q6, 0, none⟩) BX.length BX.length].toArray 92 (0, 0)) :: .row (some ⟨q2, 0, none⟩) PX.length 9 1 (PX.map sV) :: .row (some ⟨q4, 0, none⟩) DX.length 4 1 (DX.map oV) :: .row (some ⟨q6, 0, none⟩) BX.length 5 1 (BX.map uV) :: .blk y (.cells [.slice (some ⟨z2, 0, none⟩) PY.length PY.length, .slice (some ⟨z4, 0, none⟩) DY.length DY.length, .slice (some ⟨z6, 0, none⟩) BY.length BY.length].toArray 92 (0, 0)) :: .row (some ⟨z2, 0, none⟩) PY.length 9 1 (PY.map sV) :: .row (some ⟨z4, 0, none⟩) DY.length 4 1 (DY.map oV) :: .row (some ⟨z6, 0, none⟩) BY.length 5 1 (BY.map uV) :: H) zpk ?_
          refine w_callF Try.func49 ?_ (hs := mdrop_any ⟨V1.l, V1.p ++ PY[p], V1.d⟩ BY[p] (by have := hV2.d; simp only at this ⊢; omega) _ _ _)
          rintro v m H1 ⟨rfl, rfl, rfl⟩
          (try (refine st_E20_1 ?_; intros))
          rw [eal]
          refine WQ.next (DX.length + 1 - (p + 1)) ⟨p + 1, cu2, cpu2, U2, cv2, cpv2, ⟨V1.l, V1.p ++ PY[p], V1.d ++ [BY[p]]⟩, al + PX[p].length + PY[p].length, k + PX[p].length + PY[p].length + 7, rfl, rfl, rfl, rfl, rfl, ?_, ?_, ?_, ?_, ?_⟩ (by omega) zsb zpk
          · omega
          · exact hU2.mono (by omega)
          · exact (bfit_drop hV2 [BY[p]]).mono (by simp only [List.length_singleton]; omega)
          · omega
          · exact ht
        | false =>
          rw [hdy] at gyd ht
          simp only [Bool.false_eq_true, and_self, if_false] at ht
          have eal2 : ((al + PX[p].length + PY[p].length : Nat) : Int) + 1 = ((al + PX[p].length + PY[p].length + 1 : Nat) : Int) := by omega
          (try (refine st_E20_1 ?_; intros))
          refine WL.heap (H' := .blk bu (.cells [.slice cu2 U2.l.length cpu2, str U2.p, str U2.d].toArray 109 (0, 0)) :: .row cu2 cpu2 84 3 (U2.l.map Stp.cs) :: .blk bv (.cells [.slice cv2 V1.l.length cpv2, str (V1.p ++ PY[p]), str V1.d].toArray 109 (0, 0)) :: .row cv2 cpv2 84 3 (V1.l.map Stp.cs) :: .blk x (.cells [.slice (some ⟨q2, 0, none⟩) PX.length PX.length, .slice (some ⟨q4, 0, none⟩) DX.length DX.length, .slice (some ⟨q6, 0, none⟩) BX.length BX.length].toArray 92 (0, 0)) :: .row (some ⟨q2, 0, none⟩) PX.length 9 1 (PX.map sV) :: .row (some ⟨q4, 0, none⟩) DX.length 4 1 (DX.map oV) :: .row (some ⟨q6, 0, none⟩) BX.length 5 1 (BX.map uV) :: .blk y (.cells [.slice (some ⟨z2, 0, none⟩) PY.length PY.length, .slice (some ⟨z4, 0, none⟩) DY.length DY.length, .slice (some ⟨z6, 0, none⟩) BY.length BY.length].toArray 92 (0, 0)) :: .row (some ⟨z2, 0, none⟩) PY.length 9 1 (PY.map sV) :: .row (some ⟨z4, 0, none⟩) DY.length 4 1 (DY.map oV) :: .row (some ⟨z6, 0, none⟩) BY.length 5 1 (BY.map uV) :: H) zpk ?_
          refine w_callF Try.func50 ?_ (hs := mkeep_any U2 1 (by omega) (hU2.mono (by omega)) _ _ _)
          rintro v m H1 ⟨rfl, rfl, cu3, cpu3, rfl⟩
          (try (refine st_E20_1 ?_; intros))
          refine WL.heap (H' := .blk bv (.cells [.slice cv2 V1.l.length cpv2, str (V1.p ++ PY[p]), str V1.d].toArray 109 (0, 0)) :: .row cv2 cpv2 84 3 (V1.l.map Stp.cs) :: .blk bu (.cells [.slice cu3 (U2.keep ((1 : Nat) : Int)).l.length cpu3, str (U2.keep ((1 : Nat) : Int)).p, str (U2.keep ((1 : Nat) : Int)).d].toArray 109 (0, 0)) :: .row cu3 cpu3 84 3 ((U2.keep ((1 : Nat) : Int)).l.map Stp.cs) :: .blk x (.cells [.slice (some ⟨q2, 0, none⟩) PX.length PX.length, .slice (some ⟨q4, 0, none⟩) DX.length DX.length, .slice (some ⟨q6, 0, none⟩) BX.length BX.length].toArray 92 (0, 0)) :: .row (some ⟨q2, 0, none⟩) PX.length 9 1 (PX.map sV) :: .row (some ⟨q4, 0, none⟩) DX.length 4 1 (DX.map oV) :: .row (some ⟨q6, 0, none⟩) BX.length 5 1 (BX.map uV) :: .blk y (.cells [.slice (some ⟨z2, 0, none⟩) PY.length PY.length, .slice (some ⟨z4, 0, none⟩) DY.length DY.length, .slice (some ⟨z6, 0, none⟩) BY.length BY.length].toArray 92 (0, 0)) :: .row (some ⟨z2, 0, none⟩) PY.length 9 1 (PY.map sV) :: .row (some ⟨z4, 0, none⟩) DY.length 4 1 (DY.map oV) :: .row (some ⟨z6, 0, none⟩) BY.length 5 1 (BY.map uV) :: H) zpk ?_
          refine w_callF Try.func50 ?_ (hs := mkeep_any ⟨V1.l, V1.p ++ PY[p], V1.d⟩ 1 (by omega) (hV2.mono (by omega)) _ _ _)
          rintro v m H1 ⟨rfl, rfl, cv3, cpv3, rfl⟩
          (try (refine st_E20_1 ?_; intros))
          rw [eal, eal2]
          refine WQ.next (DX.length + 1 - (p + 1)) ⟨p + 1, cu3, cpu3, U2.keep ((1 : Nat) : Int), cv3, cpv3, (⟨V1.l, V1.p ++ PY[p], V1.d⟩ : Bld).keep ((1 : Nat) : Int), al + PX[p].length + PY[p].length + 1, k + PX[p].length + PY[p].length + 7, rfl, rfl, rfl, rfl, rfl, ?_, ?_, ?_, ?_, ?_⟩ (by omega) zsb zpk
          · omega
          · exact (hU2.keep (n := 1)).mono (by omega)
          · exact (hV2.keep (n := 1)).mono (by omega)
          · omega
          · exact ht
    · have hpe : p = DX.length := by omega
      have eL : PX.getD DX.length [] = PX[p] := getD_last hpe hpx
      have eM : PY.getD DY.length [] = PY[p] := getD_last (by omega) hpy
      rw [pos_end (by omega), pos_end (by omega), eL, eM, car_last] at ht
      dsimp only at ht
      rw [hV1e, hU2e] at ht
      have hcom2 : carP a b = if 65536 < al + PX[p].length + PY[p].length then .inl 3 else .inr (U2.close.l, (⟨V1.l, V1.p ++ PY[p], V1.d⟩ : Bld).close.l) := by
        rw [hcom, eL, eM, ← ht]
      have hU2l := hU2.len
      have hV2l := hV2.len
      rw [hcom2]
      by_cases hbig : 65536 < al + PX[p].length + PY[p].length
      · rw [if_pos hbig]
        (try (refine st_E20_1 ?_; intros))
        exact q_fin0 (H0 := H) ⟨rfl, rfl, rfl⟩ (hd := zpk)
      · rw [if_neg hbig]
        (try (refine st_E20_1 ?_; intros))
        refine WL.heap (H' := .blk bu (.cells [.slice cu2 U2.l.length cpu2, str U2.p, str U2.d].toArray 109 (0, 0)) :: .row cu2 cpu2 84 3 (U2.l.map Stp.cs) :: .blk bv (.cells [.slice cv2 V1.l.length cpv2, str (V1.p ++ PY[p]), str V1.d].toArray 109 (0, 0)) :: .row cv2 cpv2 84 3 (V1.l.map Stp.cs) :: H) zpk ?_
        refine w_callF Try.func51 ?_ (hs := end_any U2 (by omega) _ _ _)
        rintro v m H1 ⟨rfl, rfl, cu3, cpu3, rfl⟩
        (try (refine st_E20_1 ?_; intros))
        refine WL.heap (H' := .blk bv (.cells [.slice cv2 V1.l.length cpv2, str (V1.p ++ PY[p]), str V1.d].toArray 109 (0, 0)) :: .row cv2 cpv2 84 3 (V1.l.map Stp.cs) :: .blk bu (.cells [.slice cu3 U2.close.l.length cpu3, str [], str []].toArray 109 (0, 0)) :: .row cu3 cpu3 84 3 (U2.close.l.map Stp.cs) :: H) zpk ?_
        refine w_callF Try.func51 ?_ (hs := end_any ⟨V1.l, V1.p ++ PY[p], V1.d⟩ (by simp only at hV2l ⊢; omega) _ _ _)
        rintro v m H1 ⟨rfl, rfl, cv3, cpv3, rfl⟩
        (try (refine st_E20_1 ?_; intros))
        exact q_fin0 (H0 := .row cu3 cpu3 84 3 (U2.close.l.map Stp.cs) :: .row cv3 cpv3 84 3 ((⟨V1.l, V1.p ++ PY[p], V1.d⟩ : Bld).close.l.map Stp.cs) :: H) ⟨rfl, cu3, cpu3, cv3, cpv3, rfl, rfl⟩ (hd := zpk)
  · have e : carP a b = .inl 5 := by simp only [carP, hsa, hsb]; rw [if_pos hmf]
    rw [e]
    (try (refine st_E20_1 ?_; intros))
    exact q_fin0 (H0 := H) ⟨rfl, rfl, rfl⟩ (hd := zpk)
end Go.Proofs.Ytelgegefmjlimaa

