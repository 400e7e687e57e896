/-
  Parts of a walk, joined: E11 E17a ET8 E10 ET9 ET10 ET11 ET12 ET13 ET14 ET15 ET31 EQP ET19 ET26 EQ9. No condition.
-/
import Derived.Test.YtelgegefmjlimaaDoorP4
import Derived.Test.YtelgegefmjlimaaDoorP7
import Derived.Test.YtelgegefmjlimaaDoorP5
set_option linter.all false
/-
  The walk of the reference's Say: a change place by place. No condition.
-/
namespace Go.Eng
open Go
def sV (s : List UInt8) : List Value := [str s]
def oV (b : Bool) : List Value := [.bool b]
def uV (b : UInt8) : List Value := [.int .u8 (b.toNat : Int)]
theorem pads_len {N : Nat} {g : Gs} (h : atOf g ≤ N) : ((putsPad N g).map sV).length = N + 1 ∧ ((dropsPad N g).map oV).length = N ∧ ((bytesPad N g).map uV).length = N := by
  have h1 : gapAt g ≤ atOf g := by unfold atOf; omega
  have hl := (flat_lens g.done).2
  refine ⟨?_, ?_, ?_⟩
  · rw [List.length_map, putsPad, pad_length]
    rw [List.length_append, List.length_singleton, hl]
    unfold gapAt at h1; omega
  · rw [List.length_map, dropsPad, pad_length]; rw [dropsOf_len]; exact h
  · rw [List.length_map, bytesPad, pad_length]; rw [bytesOf_len]; exact h
theorem pads_start (N : Nat) : (putsPad N Gs.start).map sV = List.replicate (N + 1) [str []] ∧ (dropsPad N Gs.start).map oV = List.replicate N [.bool false] ∧ (bytesPad N Gs.start).map uV = List.replicate N [.int .u8 0] := by
  refine ⟨?_, ?_, ?_⟩
  · simp [putsPad, pad, Gs.start, sV, List.replicate_succ]
  · simp [dropsPad, pad, Gs.start, oV, dropsOf]
  · simp [bytesPad, pad, Gs.start, uV, bytesOf]
theorem put_nil (g : Gs) : g.put [] = g := by cases g; simp [Gs.put]
def Gs.drops (g : Gs) (s : List UInt8) : Gs := ⟨g.done, ⟨g.cur.p, g.cur.d ++ s⟩⟩
theorem drops_nil (g : Gs) : g.drops [] = g := by cases g; simp [Gs.drops]
theorem drops_snoc (g : Gs) (s : List UInt8) (b : UInt8) : g.drops (s ++ [b]) = (g.drops s).byte b := by simp [Gs.drops, Gs.byte]
theorem drops_at (g : Gs) (s : List UInt8) : atOf (g.drops s) = atOf g + s.length ∧ gapAt (g.drops s) = gapAt g := by
  simp [atOf, gapAt, Gs.drops]; omega
theorem put_at (g : Gs) (s : List UInt8) : atOf (g.put s) = atOf g ∧ gapAt (g.put s) = gapAt g := ⟨rfl, rfl⟩
theorem step_parts {g : Gs} {x : Stp} (h : stpOk x) : g.step x = if 0 < x.k then ((g.put x.p).drops x.d).keeps x.k.toNat else (g.put x.p).drops x.d := by
  obtain ⟨k, d, p⟩ := x
  rcases h with ⟨h1, h2, h3⟩ | ⟨h1, h2, h3⟩ | ⟨h1, h2, h3⟩
  · simp only at h1 h2 h3
    subst h2; subst h3
    simp only [h1, if_true, put_nil, drops_nil]
    simp [Gs.step, h1, Gs.keeps]
  · simp only at h1 h2 h3
    subst h1; subst h3
    simp [Gs.step, h2, put_nil, Gs.drops]
  · simp only at h1 h2 h3
    subst h1; subst h2
    simp [Gs.step, drops_nil, Gs.put]
theorem gb_at {l : List UInt8} {k : Nat} (h : k < l.length) : gb l k = (l[k]).toNat := by unfold gb; rw [List.getD_eq_getElem?_getD, List.getElem?_eq_getElem h]; rfl
theorem toA_le : ∀ l : List Atm, toA l ≤ l.length
  | [] => Nat.le_refl _
  | .k :: l => by have := toA_le l; simp only [toA, List.length_cons]; omega
  | .d _ :: l => by have := toA_le l; simp only [toA, List.length_cons]; omega
  | .p _ :: l => by have := toA_le l; simp only [toA, List.length_cons]; omega
theorem cur_len {l : List Stp} (h : ∀ s ∈ l, stpOk s) (i : Nat) : (gapsOf (l.take i)).cur.p.length ≤ (atomsOf l).length := by
  have h1 := (nf_sizes (l.take i) (fun s hs => h s (List.mem_of_mem_take hs))).2
  have h2 := toA_le (atomsOf (l.take i))
  have h3 : (gapsOf (l.take i)).cur.p.length ≤ toA (nfOf (gapsOf (l.take i))) := by
    unfold nfOf gapA; rw [toA_append, toA_append, toA_p]; omega
  have e : atomsOf l = atomsOf (l.take i) ++ atomsOf (l.drop i) := by rw [← atoms_append, List.take_append_drop]
  rw [e, List.length_append]; omega
theorem gaps_next {l : List Stp} {i : Nat} {x : Stp} (h : l.take (i + 1) = l.take i ++ [x]) : gapsOf (l.take (i + 1)) = (gapsOf (l.take i)).step x := by
  rw [h, gapsOf, List.foldl_append]; rfl
end Go.Eng
namespace Go.Proofs.YtelgegefmjlimaaDoor
open Go Go.Eng
set_option maxRecDepth 100000
set_option maxHeartbeats 4000000
set_option linter.all false
attribute [local irreducible] WL WC WQ QFun QLoop Does Q1 QRound QAssign Go.Addr.add
attribute [local irreducible] sizesF sizesOf putsPad dropsPad bytesPad Gs.put Gs.drops Gs.keeps Gs.byte atOf gapAt
theorem sq_E11_1 {G : Prop} (h : G := by (repeat (first | (refine sp ?_; (repeat intro zzc)) | (refine iF 31 rfl ?_; refine w_callG Tryd.func31 ?_ (hs := refSizes_any (by assumption) _ _ _ (by repeat (first | assumption | apply RowR.more)))))); exact WQ.q1 rfl) : G := h
theorem cm_E11_1 {G G' : Prop} (next : G') (h : Bx G' → G := by intro zzn; (try (refine wcal 0 ?_ (hwl := by intro zm zF zle; exact sq_E11_1))); (try (refine wcal 1 ?_ (hwl := by intro zm zF zle; exact sq_E11_1))); (try (refine wcal 2 ?_ (hwl := by intro zm zF zle; exact sq_E11_1))); (try (refine wcal 3 ?_ (hwl := by intro zm zF zle; exact sq_E11_1))); (try (refine wcal 4 ?_ (hwl := by intro zm zF zle; exact sq_E11_1))); (try (refine wcal 5 ?_ (hwl := by intro zm zF zle; exact sq_E11_1))); (try (refine wcal 6 ?_ (hwl := by intro zm zF zle; exact sq_E11_1))); (try (refine wcal 7 ?_ (hwl := by intro zm zF zle; exact sq_E11_1))); (try (refine wcal 8 ?_ (hwl := by intro zm zF zle; exact sq_E11_1))); (try (refine wcal 9 ?_ (hwl := by intro zm zF zle; exact sq_E11_1))); (try (refine wcal 10 ?_ (hwl := by intro zm zF zle; exact sq_E11_1))); (try (refine wcal 11 ?_ (hwl := by intro zm zF zle; exact sq_E11_1))); (try (refine wcal 12 ?_ (hwl := by intro zm zF zle; exact sq_E11_1))); (try (refine wcal 13 ?_ (hwl := by intro zm zF zle; exact sq_E11_1))); (try (refine wcal 14 ?_ (hwl := by intro zm zF zle; exact sq_E11_1))); (try (refine wcal 15 ?_ (hwl := by intro zm zF zle; exact sq_E11_1))); (try (refine wcal 16 ?_ (hwl := by intro zm zF zle; exact sq_E11_1))); (try (refine wcal 17 ?_ (hwl := by intro zm zF zle; exact sq_E11_1))); (try (refine wcal 18 ?_ (hwl := by intro zm zF zle; exact sq_E11_1))); (try (refine wcal 19 ?_ (hwl := by intro zm zF zle; exact sq_E11_1))); (try (refine wcal 20 ?_ (hwl := by intro zm zF zle; exact sq_E11_1))); (try (refine wcal 21 ?_ (hwl := by intro zm zF zle; exact sq_E11_1))); (try (refine wcal 22 ?_ (hwl := by intro zm zF zle; exact sq_E11_1))); (try (refine wcal 23 ?_ (hwl := by intro zm zF zle; exact sq_E11_1))); (try (refine wcal 24 ?_ (hwl := by intro zm zF zle; exact sq_E11_1))); (try (refine wcal 25 ?_ (hwl := by intro zm zF zle; exact sq_E11_1))); (try (refine wcal 26 ?_ (hwl := by intro zm zF zle; exact sq_E11_1))); (try (refine wcal 27 ?_ (hwl := by intro zm zF zle; exact sq_E11_1))); (try (refine wcal 28 ?_ (hwl := by intro zm zF zle; exact sq_E11_1))); (try (refine wcal 29 ?_ (hwl := by intro zm zF zle; exact sq_E11_1))); (try (refine wcal 30 ?_ (hwl := by intro zm zF zle; exact sq_E11_1))); (try (refine wcal 31 ?_ (hwl := by intro zm zF zle; exact sq_E11_1))); (try (refine wcal 32 ?_ (hwl := by intro zm zF zle; exact sq_E11_1))); (try (refine wcal 33 ?_ (hwl := by intro zm zF zle; exact sq_E11_1))); (try (refine wcal 34 ?_ (hwl := by intro zm zF zle; exact sq_E11_1))); (try (refine wcal 35 ?_ (hwl := by intro zm zF zle; exact sq_E11_1))); (try (refine wcal 36 ?_ (hwl := by intro zm zF zle; exact sq_E11_1))); (try (refine wcal 37 ?_ (hwl := by intro zm zF zle; exact sq_E11_1))); (try (refine wcal 38 ?_ (hwl := by intro zm zF zle; exact sq_E11_1))); (try (refine wcal 39 ?_ (hwl := by intro zm zF zle; exact sq_E11_1))); (try (refine wcal 40 ?_ (hwl := by intro zm zF zle; exact sq_E11_1))); (try (refine wcal 41 ?_ (hwl := by intro zm zF zle; exact sq_E11_1))); exact zzn.out) : G := h ⟨next⟩
theorem st_E11_1 {G G' : Prop} (next : G') (h : Bx G' → G := by intro zzn; (first | ((refine st ?_; (repeat intro zzc)); (try ((first | (refine iF 31 rfl ?_; refine w_callG Tryd.func31 ?_ (hs := refSizes_any (by assumption) _ _ _ (by repeat (first | assumption | apply RowR.more)))) | ((refine iDraw ?_; (first | refine WC.drawAll rfl (by decide +kernel) ?_ | refine WC.draw 1 rfl (by decide +kernel) ?_ | refine WC.draw 2 rfl (by decide +kernel) ?_ | refine WC.draw 3 rfl (by decide +kernel) ?_ | refine WC.draw 4 rfl (by decide +kernel) ?_ | refine WC.draw 5 rfl (by decide +kernel) ?_ | refine WC.draw 6 rfl (by decide +kernel) ?_ | refine WC.draw 7 rfl (by decide +kernel) ?_ | refine WC.draw 8 rfl (by decide +kernel) ?_ | refine WC.draw 9 rfl (by decide +kernel) ?_ | refine WC.draw 10 rfl (by decide +kernel) ?_ | refine WC.draw 11 rfl (by decide +kernel) ?_ | refine WC.draw 12 rfl (by decide +kernel) ?_ | refine WC.draw 13 rfl (by decide +kernel) ?_ | refine WC.draw 14 rfl (by decide +kernel) ?_ | refine WC.draw 15 rfl (by decide +kernel) ?_ | refine WC.draw 16 rfl (by decide +kernel) ?_ | refine WC.draw 17 rfl (by decide +kernel) ?_ | refine WC.draw 18 rfl (by decide +kernel) ?_ | refine WC.draw 19 rfl (by decide +kernel) ?_ | refine WC.draw 20 rfl (by decide +kernel) ?_ | refine WC.draw 21 rfl (by decide +kernel) ?_ | refine WC.draw 22 rfl (by decide +kernel) ?_ | refine WC.draw 23 rfl (by decide +kernel) ?_ | refine WC.draw 24 rfl (by decide +kernel) ?_)); (repeat (refine WD.cons rfl (fun c h => by cases h) sq_E11_1 ?_)); refine WD.nil ?_)); (try (refine st ?_; (repeat intro zzc)))))) | ((first | (refine iF 31 rfl ?_; refine w_callG Tryd.func31 ?_ (hs := refSizes_any (by assumption) _ _ _ (by repeat (first | assumption | apply RowR.more)))) | ((refine iDraw ?_; (first | refine WC.drawAll rfl (by decide +kernel) ?_ | refine WC.draw 1 rfl (by decide +kernel) ?_ | refine WC.draw 2 rfl (by decide +kernel) ?_ | refine WC.draw 3 rfl (by decide +kernel) ?_ | refine WC.draw 4 rfl (by decide +kernel) ?_ | refine WC.draw 5 rfl (by decide +kernel) ?_ | refine WC.draw 6 rfl (by decide +kernel) ?_ | refine WC.draw 7 rfl (by decide +kernel) ?_ | refine WC.draw 8 rfl (by decide +kernel) ?_ | refine WC.draw 9 rfl (by decide +kernel) ?_ | refine WC.draw 10 rfl (by decide +kernel) ?_ | refine WC.draw 11 rfl (by decide +kernel) ?_ | refine WC.draw 12 rfl (by decide +kernel) ?_ | refine WC.draw 13 rfl (by decide +kernel) ?_ | refine WC.draw 14 rfl (by decide +kernel) ?_ | refine WC.draw 15 rfl (by decide +kernel) ?_ | refine WC.draw 16 rfl (by decide +kernel) ?_ | refine WC.draw 17 rfl (by decide +kernel) ?_ | refine WC.draw 18 rfl (by decide +kernel) ?_ | refine WC.draw 19 rfl (by decide +kernel) ?_ | refine WC.draw 20 rfl (by decide +kernel) ?_ | refine WC.draw 21 rfl (by decide +kernel) ?_ | refine WC.draw 22 rfl (by decide +kernel) ?_ | refine WC.draw 23 rfl (by decide +kernel) ?_ | refine WC.draw 24 rfl (by decide +kernel) ?_)); (repeat (refine WD.cons rfl (fun c h => by cases h) sq_E11_1 ?_)); refine WD.nil ?_)); (try (refine st ?_; (repeat intro zzc))))); (repeat ((first | (refine iF 31 rfl ?_; refine w_callG Tryd.func31 ?_ (hs := refSizes_any (by assumption) _ _ _ (by repeat (first | assumption | apply RowR.more)))) | ((refine iDraw ?_; (first | refine WC.drawAll rfl (by decide +kernel) ?_ | refine WC.draw 1 rfl (by decide +kernel) ?_ | refine WC.draw 2 rfl (by decide +kernel) ?_ | refine WC.draw 3 rfl (by decide +kernel) ?_ | refine WC.draw 4 rfl (by decide +kernel) ?_ | refine WC.draw 5 rfl (by decide +kernel) ?_ | refine WC.draw 6 rfl (by decide +kernel) ?_ | refine WC.draw 7 rfl (by decide +kernel) ?_ | refine WC.draw 8 rfl (by decide +kernel) ?_ | refine WC.draw 9 rfl (by decide +kernel) ?_ | refine WC.draw 10 rfl (by decide +kernel) ?_ | refine WC.draw 11 rfl (by decide +kernel) ?_ | refine WC.draw 12 rfl (by decide +kernel) ?_ | refine WC.draw 13 rfl (by decide +kernel) ?_ | refine WC.draw 14 rfl (by decide +kernel) ?_ | refine WC.draw 15 rfl (by decide +kernel) ?_ | refine WC.draw 16 rfl (by decide +kernel) ?_ | refine WC.draw 17 rfl (by decide +kernel) ?_ | refine WC.draw 18 rfl (by decide +kernel) ?_ | refine WC.draw 19 rfl (by decide +kernel) ?_ | refine WC.draw 20 rfl (by decide +kernel) ?_ | refine WC.draw 21 rfl (by decide +kernel) ?_ | refine WC.draw 22 rfl (by decide +kernel) ?_ | refine WC.draw 23 rfl (by decide +kernel) ?_ | refine WC.draw 24 rfl (by decide +kernel) ?_)); (repeat (refine WD.cons rfl (fun c h => by cases h) sq_E11_1 ?_)); refine WD.nil ?_)); (try (refine st ?_; (repeat intro zzc))))); (repeat revert zzc); exact zzn.out) : G := h ⟨next⟩
theorem say_any {a : Option Addr} {cap : Nat} {l : List Stp} {f t : Int} (hf : Fit l) (hs : sizesOf l = some (f, t)) (w0 : World) (m : Mem) (H : SHeap) (hr : RowR w0 m H 3 a (l.map Stp.cs)) :
    Does Tryd.prog 35 #[.slice a l.length cap] w0 m H (fun v m' H' => m' = m ∧ ∃ q2 q4 q6, v = .agg #[.slice (some ⟨q2, 0, none⟩) (putsOf (gapsOf l)).length (putsOf (gapsOf l)).length, .slice (some ⟨q4, 0, none⟩) (dropsOf (gapsOf l)).length (dropsOf (gapsOf l)).length, .slice (some ⟨q6, 0, none⟩) (bytesOf (gapsOf l)).length (bytesOf (gapsOf l)).length] ∧
      H' = .row (some ⟨q2, 0, none⟩) (putsOf (gapsOf l)).length 9 1 ((putsOf (gapsOf l)).map sV) :: .row (some ⟨q4, 0, none⟩) (dropsOf (gapsOf l)).length 4 1 ((dropsOf (gapsOf l)).map oV) :: .row (some ⟨q6, 0, none⟩) (bytesOf (gapsOf l)).length 5 1 ((bytesOf (gapsOf l)).map uV) :: H) := by
  refine Does.of_body (args := [.slice a l.length cap]) Tryd.func35 rfl Tryd.ntmps35 rfl ?_
  have hln : (l.map Stp.cs).length = l.length := by simp
  have hlen := hf.len
  have e2 : szR (sizesOf l) = .tuple #[.int .i64 f, .int .i64 t, .bool true] := by rw [hs]; rfl
  obtain ⟨hok, hal, hpl, hfr, _, g1, g2, _, _⟩ := sized hs
  obtain ⟨N, rfl⟩ : ∃ N : Nat, f = (N : Int) := ⟨f.toNat, by omega⟩
  (refine st_E11_1 ?_; intros; rename_i r0)
  rw [e2]
  (try (refine st_E11_1 ?_; intros))
  refine WC.join (fun r' ds' m' H' => ∃ q2 q4 q6 b, r' = [(6, .pointer (some ⟨b, 0, none⟩)), (2, .pointer (some ⟨r0, 0, none⟩)), (0, .slice a l.length cap)] ∧ ds' = [] ∧ m = m' ∧ H' = .blk b (.cells [.slice (some ⟨q2, 0, none⟩) (N + 1) (N + 1), .slice (some ⟨q4, 0, none⟩) N N, .slice (some ⟨q6, 0, none⟩) N N].toArray 76 (0, 0)) :: .blk r0 (.cells [.slice none 0 0, .slice none 0 0, .slice none 0 0].toArray 76 (0, 0)) :: .row (some ⟨q2, 0, none⟩) (N + 1) 9 1 (List.replicate (N + 1) [str []]) :: .row (some ⟨q4, 0, none⟩) N 4 1 (List.replicate N [.bool false]) :: .row (some ⟨q6, 0, none⟩) N 5 1 (List.replicate N [.int .u8 0]) :: H) ?_ ?_
  · refine WC.drawE 9 ([]) (.blk r0 (.cells [.slice none 0 0, .slice none 0 0, .slice none 0 0].toArray 76 (0, 0)) :: H) rfl (by decide +kernel) zpk ?_
    (refine cm_E11_1 ?_)
    refine WE.acts [2, 4, 6, 8] (by decide +kernel) (all_cons ?_ (all_cons ?_ (all_cons ?_ (all_cons ?_ (all_nil)))))
    · refine Acts.mk rfl rfl (fun c h => by cases h) ?_
      refine WL.makeRow (k:=N + 1) (sz:=1) (by':=16) (zs:=[str []]) rfl rfl (by omega) (by omega) rfl rfl rfl rfl rfl rfl (by decide) (by omega) (by omega) rfl ?_; intro q2; refine WL.nil ?_
      refine WQ.acted (B := [.row (some ⟨q2, 0, none⟩) (N + 1) 9 1 (List.replicate (N + 1) [str []])]) (U := .blk r0 (.cells [.slice none 0 0, .slice none 0 0, .slice none 0 0].toArray 76 (0, 0)) :: H) rfl (Mem.le.refl _) zpk ?_
      refine WE.acts [4, 6, 8] (by decide +kernel) (all_cons ?_ (all_cons ?_ (all_cons ?_ (all_nil))))
      · refine Acts.mk rfl rfl (fun c h => by cases h) ?_
        refine WL.makeRow (k:=N) (sz:=1) (by':=1) (zs:=[.bool false]) rfl rfl rfl rfl rfl rfl rfl rfl rfl rfl (by decide) (by omega) (by omega) rfl ?_; intro q4; refine WL.nil ?_
        refine WQ.acted (B := [.row (some ⟨q4, 0, none⟩) N 4 1 (List.replicate N [.bool false])]) (U := .blk r0 (.cells [.slice none 0 0, .slice none 0 0, .slice none 0 0].toArray 76 (0, 0)) :: H) rfl (Mem.le.refl _) zpk ?_
        refine WE.acts [6, 8] (by decide +kernel) (all_cons ?_ (all_cons ?_ (all_nil)))
        · refine Acts.mk rfl rfl (fun c h => by cases h) ?_
          refine WL.makeRow (k:=N) (sz:=1) (by':=1) (zs:=[.int .u8 0]) rfl rfl rfl rfl rfl rfl rfl rfl rfl rfl (by decide) (by omega) (by omega) rfl ?_; intro q6; refine WL.nil ?_
          refine WQ.acted (B := [.row (some ⟨q6, 0, none⟩) N 5 1 (List.replicate N [.int .u8 0])]) (U := .blk r0 (.cells [.slice none 0 0, .slice none 0 0, .slice none 0 0].toArray 76 (0, 0)) :: H) rfl (Mem.le.refl _) zpk ?_
          (refine WE.calm 7 (by decide +kernel) rfl rfl (by decide +kernel) rfl (fun c h => by cases h) (by intro zm zF zle; exact sq_E11_1) ?_)
          refine WE.acts [8] (by decide +kernel) (all_cons ?_ (all_nil))
          · refine Acts.mk rfl rfl (fun c h => by cases h) ?_
            refine WL.alloc (cs := [.slice none 0 0, .slice none 0 0, .slice none 0 0]) rfl rfl rfl ?_; intro b; refine WL.nil ?_
            refine WQ.acted (B := [.blk b (.cells [.slice none 0 0, .slice none 0 0, .slice none 0 0].toArray 76 (0, 0))]) (U := .blk r0 (.cells [.slice none 0 0, .slice none 0 0, .slice none 0 0].toArray 76 (0, 0)) :: H) rfl (Mem.le.refl _) zpk ?_
            refine WE.done (by decide +kernel) ?_
            (try (refine st_E11_1 ?_; intros))
            exact WQ.join ⟨q2, q4, q6, b, rfl, rfl, rfl, rfl⟩ zsb zpk
        · refine Acts.mk rfl rfl (fun c h => by cases h) ?_
          refine WL.alloc (cs := [.slice none 0 0, .slice none 0 0, .slice none 0 0]) rfl rfl rfl ?_; intro b; refine WL.nil ?_
          refine WQ.acted (B := [.blk b (.cells [.slice none 0 0, .slice none 0 0, .slice none 0 0].toArray 76 (0, 0))]) (U := .blk r0 (.cells [.slice none 0 0, .slice none 0 0, .slice none 0 0].toArray 76 (0, 0)) :: H) rfl (Mem.le.refl _) zpk ?_
          refine WE.acts [6] (by decide +kernel) (all_cons ?_ (all_nil))
          · refine Acts.mk rfl rfl (fun c h => by cases h) ?_
            refine WL.makeRow (k:=N) (sz:=1) (by':=1) (zs:=[.int .u8 0]) rfl rfl rfl rfl rfl rfl rfl rfl rfl rfl (by decide) (by omega) (by omega) rfl ?_; intro q6; refine WL.nil ?_
            refine WQ.acted (B := [.row (some ⟨q6, 0, none⟩) N 5 1 (List.replicate N [.int .u8 0])]) (U := .blk r0 (.cells [.slice none 0 0, .slice none 0 0, .slice none 0 0].toArray 76 (0, 0)) :: H) rfl (Mem.le.refl _) zpk ?_
            (refine WE.calm 7 (by decide +kernel) rfl rfl (by decide +kernel) rfl (fun c h => by cases h) (by intro zm zF zle; exact sq_E11_1) ?_)
            refine WE.done (by decide +kernel) ?_
            (try (refine st_E11_1 ?_; intros))
            exact WQ.join ⟨q2, q4, q6, b, rfl, rfl, rfl, rfl⟩ zsb zpk
      · refine Acts.mk rfl rfl (fun c h => by cases h) ?_
        refine WL.makeRow (k:=N) (sz:=1) (by':=1) (zs:=[.int .u8 0]) rfl rfl rfl rfl rfl rfl rfl rfl rfl rfl (by decide) (by omega) (by omega) rfl ?_; intro q6; refine WL.nil ?_
        refine WQ.acted (B := [.row (some ⟨q6, 0, none⟩) N 5 1 (List.replicate N [.int .u8 0])]) (U := .blk r0 (.cells [.slice none 0 0, .slice none 0 0, .slice none 0 0].toArray 76 (0, 0)) :: H) rfl (Mem.le.refl _) zpk ?_
        refine WE.acts [4, 8] (by decide +kernel) (all_cons ?_ (all_cons ?_ (all_nil)))
        · refine Acts.mk rfl rfl (fun c h => by cases h) ?_
          refine WL.makeRow (k:=N) (sz:=1) (by':=1) (zs:=[.bool false]) rfl rfl rfl rfl rfl rfl rfl rfl rfl rfl (by decide) (by omega) (by omega) rfl ?_; intro q4; refine WL.nil ?_
          refine WQ.acted (B := [.row (some ⟨q4, 0, none⟩) N 4 1 (List.replicate N [.bool false])]) (U := .blk r0 (.cells [.slice none 0 0, .slice none 0 0, .slice none 0 0].toArray 76 (0, 0)) :: H) rfl (Mem.le.refl _) zpk ?_
          (refine WE.calm 7 (by decide +kernel) rfl rfl (by decide +kernel) rfl (fun c h => by cases h) (by intro zm zF zle; exact sq_E11_1) ?_)
          refine WE.acts [8] (by decide +kernel) (all_cons ?_ (all_nil))
          · refine Acts.mk rfl rfl (fun c h => by cases h) ?_
            refine WL.alloc (cs := [.slice none 0 0, .slice none 0 0, .slice none 0 0]) rfl rfl rfl ?_; intro b; refine WL.nil ?_
            refine WQ.acted (B := [.blk b (.cells [.slice none 0 0, .slice none 0 0, .slice none 0 0].toArray 76 (0, 0))]) (U := .blk r0 (.cells [.slice none 0 0, .slice none 0 0, .slice none 0 0].toArray 76 (0, 0)) :: H) rfl (Mem.le.refl _) zpk ?_
            refine WE.done (by decide +kernel) ?_
            (try (refine st_E11_1 ?_; intros))
            exact WQ.join ⟨q2, q4, q6, b, rfl, rfl, rfl, rfl⟩ zsb zpk
        · refine Acts.mk rfl rfl (fun c h => by cases h) ?_
          refine WL.alloc (cs := [.slice none 0 0, .slice none 0 0, .slice none 0 0]) rfl rfl rfl ?_; intro b; refine WL.nil ?_
          refine WQ.acted (B := [.blk b (.cells [.slice none 0 0, .slice none 0 0, .slice none 0 0].toArray 76 (0, 0))]) (U := .blk r0 (.cells [.slice none 0 0, .slice none 0 0, .slice none 0 0].toArray 76 (0, 0)) :: H) rfl (Mem.le.refl _) zpk ?_
          refine WE.acts [4] (by decide +kernel) (all_cons ?_ (all_nil))
          · refine Acts.mk rfl rfl (fun c h => by cases h) ?_
            refine WL.makeRow (k:=N) (sz:=1) (by':=1) (zs:=[.bool false]) rfl rfl rfl rfl rfl rfl rfl rfl rfl rfl (by decide) (by omega) (by omega) rfl ?_; intro q4; refine WL.nil ?_
            refine WQ.acted (B := [.row (some ⟨q4, 0, none⟩) N 4 1 (List.replicate N [.bool false])]) (U := .blk r0 (.cells [.slice none 0 0, .slice none 0 0, .slice none 0 0].toArray 76 (0, 0)) :: H) rfl (Mem.le.refl _) zpk ?_
            (refine WE.calm 7 (by decide +kernel) rfl rfl (by decide +kernel) rfl (fun c h => by cases h) (by intro zm zF zle; exact sq_E11_1) ?_)
            refine WE.done (by decide +kernel) ?_
            (try (refine st_E11_1 ?_; intros))
            exact WQ.join ⟨q2, q4, q6, b, rfl, rfl, rfl, rfl⟩ zsb zpk
      · refine Acts.mk rfl rfl (fun c h => by cases h) ?_
        refine WL.alloc (cs := [.slice none 0 0, .slice none 0 0, .slice none 0 0]) rfl rfl rfl ?_; intro b; refine WL.nil ?_
        refine WQ.acted (B := [.blk b (.cells [.slice none 0 0, .slice none 0 0, .slice none 0 0].toArray 76 (0, 0))]) (U := .blk r0 (.cells [.slice none 0 0, .slice none 0 0, .slice none 0 0].toArray 76 (0, 0)) :: H) rfl (Mem.le.refl _) zpk ?_
        refine WE.acts [4, 6] (by decide +kernel) (all_cons ?_ (all_cons ?_ (all_nil)))
        · refine Acts.mk rfl rfl (fun c h => by cases h) ?_
          refine WL.makeRow (k:=N) (sz:=1) (by':=1) (zs:=[.bool false]) rfl rfl rfl rfl rfl rfl rfl rfl rfl rfl (by decide) (by omega) (by omega) rfl ?_; intro q4; refine WL.nil ?_
          refine WQ.acted (B := [.row (some ⟨q4, 0, none⟩) N 4 1 (List.replicate N [.bool false])]) (U := .blk r0 (.cells [.slice none 0 0, .slice none 0 0, .slice none 0 0].toArray 76 (0, 0)) :: H) rfl (Mem.le.refl _) zpk ?_
          refine WE.acts [6] (by decide +kernel) (all_cons ?_ (all_nil))
          · refine Acts.mk rfl rfl (fun c h => by cases h) ?_
            refine WL.makeRow (k:=N) (sz:=1) (by':=1) (zs:=[.int .u8 0]) rfl rfl rfl rfl rfl rfl rfl rfl rfl rfl (by decide) (by omega) (by omega) rfl ?_; intro q6; refine WL.nil ?_
            refine WQ.acted (B := [.row (some ⟨q6, 0, none⟩) N 5 1 (List.replicate N [.int .u8 0])]) (U := .blk r0 (.cells [.slice none 0 0, .slice none 0 0, .slice none 0 0].toArray 76 (0, 0)) :: H) rfl (Mem.le.refl _) zpk ?_
            (refine WE.calm 7 (by decide +kernel) rfl rfl (by decide +kernel) rfl (fun c h => by cases h) (by intro zm zF zle; exact sq_E11_1) ?_)
            refine WE.done (by decide +kernel) ?_
            (try (refine st_E11_1 ?_; intros))
            exact WQ.join ⟨q2, q4, q6, b, rfl, rfl, rfl, rfl⟩ zsb zpk
        · refine Acts.mk rfl rfl (fun c h => by cases h) ?_
          refine WL.makeRow (k:=N) (sz:=1) (by':=1) (zs:=[.int .u8 0]) rfl rfl rfl rfl rfl rfl rfl rfl rfl rfl (by decide) (by omega) (by omega) rfl ?_; intro q6; refine WL.nil ?_
          refine WQ.acted (B := [.row (some ⟨q6, 0, none⟩) N 5 1 (List.replicate N [.int .u8 0])]) (U := .blk r0 (.cells [.slice none 0 0, .slice none 0 0, .slice none 0 0].toArray 76 (0, 0)) :: H) rfl (Mem.le.refl _) zpk ?_
          refine WE.acts [4] (by decide +kernel) (all_cons ?_ (all_nil))
          · refine Acts.mk rfl rfl (fun c h => by cases h) ?_
            refine WL.makeRow (k:=N) (sz:=1) (by':=1) (zs:=[.bool false]) rfl rfl rfl rfl rfl rfl rfl rfl rfl rfl (by decide) (by omega) (by omega) rfl ?_; intro q4; refine WL.nil ?_
            refine WQ.acted (B := [.row (some ⟨q4, 0, none⟩) N 4 1 (List.replicate N [.bool false])]) (U := .blk r0 (.cells [.slice none 0 0, .slice none 0 0, .slice none 0 0].toArray 76 (0, 0)) :: H) rfl (Mem.le.refl _) zpk ?_
            (refine WE.calm 7 (by decide +kernel) rfl rfl (by decide +kernel) rfl (fun c h => by cases h) (by intro zm zF zle; exact sq_E11_1) ?_)
            refine WE.done (by decide +kernel) ?_
            (try (refine st_E11_1 ?_; intros))
            exact WQ.join ⟨q2, q4, q6, b, rfl, rfl, rfl, rfl⟩ zsb zpk
    · refine Acts.mk rfl rfl (fun c h => by cases h) ?_
      refine WL.makeRow (k:=N) (sz:=1) (by':=1) (zs:=[.bool false]) rfl rfl rfl rfl rfl rfl rfl rfl rfl rfl (by decide) (by omega) (by omega) rfl ?_; intro q4; refine WL.nil ?_
      refine WQ.acted (B := [.row (some ⟨q4, 0, none⟩) N 4 1 (List.replicate N [.bool false])]) (U := .blk r0 (.cells [.slice none 0 0, .slice none 0 0, .slice none 0 0].toArray 76 (0, 0)) :: H) rfl (Mem.le.refl _) zpk ?_
      refine WE.acts [2, 6, 8] (by decide +kernel) (all_cons ?_ (all_cons ?_ (all_cons ?_ (all_nil))))
      · refine Acts.mk rfl rfl (fun c h => by cases h) ?_
        refine WL.makeRow (k:=N + 1) (sz:=1) (by':=16) (zs:=[str []]) rfl rfl (by omega) (by omega) rfl rfl rfl rfl rfl rfl (by decide) (by omega) (by omega) rfl ?_; intro q2; refine WL.nil ?_
        refine WQ.acted (B := [.row (some ⟨q2, 0, none⟩) (N + 1) 9 1 (List.replicate (N + 1) [str []])]) (U := .blk r0 (.cells [.slice none 0 0, .slice none 0 0, .slice none 0 0].toArray 76 (0, 0)) :: H) rfl (Mem.le.refl _) zpk ?_
        refine WE.acts [6, 8] (by decide +kernel) (all_cons ?_ (all_cons ?_ (all_nil)))
        · refine Acts.mk rfl rfl (fun c h => by cases h) ?_
          refine WL.makeRow (k:=N) (sz:=1) (by':=1) (zs:=[.int .u8 0]) rfl rfl rfl rfl rfl rfl rfl rfl rfl rfl (by decide) (by omega) (by omega) rfl ?_; intro q6; refine WL.nil ?_
          refine WQ.acted (B := [.row (some ⟨q6, 0, none⟩) N 5 1 (List.replicate N [.int .u8 0])]) (U := .blk r0 (.cells [.slice none 0 0, .slice none 0 0, .slice none 0 0].toArray 76 (0, 0)) :: H) rfl (Mem.le.refl _) zpk ?_
          (refine WE.calm 7 (by decide +kernel) rfl rfl (by decide +kernel) rfl (fun c h => by cases h) (by intro zm zF zle; exact sq_E11_1) ?_)
          refine WE.acts [8] (by decide +kernel) (all_cons ?_ (all_nil))
          · refine Acts.mk rfl rfl (fun c h => by cases h) ?_
            refine WL.alloc (cs := [.slice none 0 0, .slice none 0 0, .slice none 0 0]) rfl rfl rfl ?_; intro b; refine WL.nil ?_
            refine WQ.acted (B := [.blk b (.cells [.slice none 0 0, .slice none 0 0, .slice none 0 0].toArray 76 (0, 0))]) (U := .blk r0 (.cells [.slice none 0 0, .slice none 0 0, .slice none 0 0].toArray 76 (0, 0)) :: H) rfl (Mem.le.refl _) zpk ?_
            refine WE.done (by decide +kernel) ?_
            (try (refine st_E11_1 ?_; intros))
            exact WQ.join ⟨q2, q4, q6, b, rfl, rfl, rfl, rfl⟩ zsb zpk
        · refine Acts.mk rfl rfl (fun c h => by cases h) ?_
          refine WL.alloc (cs := [.slice none 0 0, .slice none 0 0, .slice none 0 0]) rfl rfl rfl ?_; intro b; refine WL.nil ?_
          refine WQ.acted (B := [.blk b (.cells [.slice none 0 0, .slice none 0 0, .slice none 0 0].toArray 76 (0, 0))]) (U := .blk r0 (.cells [.slice none 0 0, .slice none 0 0, .slice none 0 0].toArray 76 (0, 0)) :: H) rfl (Mem.le.refl _) zpk ?_
          refine WE.acts [6] (by decide +kernel) (all_cons ?_ (all_nil))
          · refine Acts.mk rfl rfl (fun c h => by cases h) ?_
            refine WL.makeRow (k:=N) (sz:=1) (by':=1) (zs:=[.int .u8 0]) rfl rfl rfl rfl rfl rfl rfl rfl rfl rfl (by decide) (by omega) (by omega) rfl ?_; intro q6; refine WL.nil ?_
            refine WQ.acted (B := [.row (some ⟨q6, 0, none⟩) N 5 1 (List.replicate N [.int .u8 0])]) (U := .blk r0 (.cells [.slice none 0 0, .slice none 0 0, .slice none 0 0].toArray 76 (0, 0)) :: H) rfl (Mem.le.refl _) zpk ?_
            (refine WE.calm 7 (by decide +kernel) rfl rfl (by decide +kernel) rfl (fun c h => by cases h) (by intro zm zF zle; exact sq_E11_1) ?_)
            refine WE.done (by decide +kernel) ?_
            (try (refine st_E11_1 ?_; intros))
            exact WQ.join ⟨q2, q4, q6, b, rfl, rfl, rfl, rfl⟩ zsb zpk
      · refine Acts.mk rfl rfl (fun c h => by cases h) ?_
        refine WL.makeRow (k:=N) (sz:=1) (by':=1) (zs:=[.int .u8 0]) rfl rfl rfl rfl rfl rfl rfl rfl rfl rfl (by decide) (by omega) (by omega) rfl ?_; intro q6; refine WL.nil ?_
        refine WQ.acted (B := [.row (some ⟨q6, 0, none⟩) N 5 1 (List.replicate N [.int .u8 0])]) (U := .blk r0 (.cells [.slice none 0 0, .slice none 0 0, .slice none 0 0].toArray 76 (0, 0)) :: H) rfl (Mem.le.refl _) zpk ?_
        refine WE.acts [2, 8] (by decide +kernel) (all_cons ?_ (all_cons ?_ (all_nil)))
        · refine Acts.mk rfl rfl (fun c h => by cases h) ?_
          refine WL.makeRow (k:=N + 1) (sz:=1) (by':=16) (zs:=[str []]) rfl rfl (by omega) (by omega) rfl rfl rfl rfl rfl rfl (by decide) (by omega) (by omega) rfl ?_; intro q2; refine WL.nil ?_
          refine WQ.acted (B := [.row (some ⟨q2, 0, none⟩) (N + 1) 9 1 (List.replicate (N + 1) [str []])]) (U := .blk r0 (.cells [.slice none 0 0, .slice none 0 0, .slice none 0 0].toArray 76 (0, 0)) :: H) rfl (Mem.le.refl _) zpk ?_
          (refine WE.calm 7 (by decide +kernel) rfl rfl (by decide +kernel) rfl (fun c h => by cases h) (by intro zm zF zle; exact sq_E11_1) ?_)
          refine WE.acts [8] (by decide +kernel) (all_cons ?_ (all_nil))
          · refine Acts.mk rfl rfl (fun c h => by cases h) ?_
            refine WL.alloc (cs := [.slice none 0 0, .slice none 0 0, .slice none 0 0]) rfl rfl rfl ?_; intro b; refine WL.nil ?_
            refine WQ.acted (B := [.blk b (.cells [.slice none 0 0, .slice none 0 0, .slice none 0 0].toArray 76 (0, 0))]) (U := .blk r0 (.cells [.slice none 0 0, .slice none 0 0, .slice none 0 0].toArray 76 (0, 0)) :: H) rfl (Mem.le.refl _) zpk ?_
            refine WE.done (by decide +kernel) ?_
            (try (refine st_E11_1 ?_; intros))
            exact WQ.join ⟨q2, q4, q6, b, rfl, rfl, rfl, rfl⟩ zsb zpk
        · refine Acts.mk rfl rfl (fun c h => by cases h) ?_
          refine WL.alloc (cs := [.slice none 0 0, .slice none 0 0, .slice none 0 0]) rfl rfl rfl ?_; intro b; refine WL.nil ?_
          refine WQ.acted (B := [.blk b (.cells [.slice none 0 0, .slice none 0 0, .slice none 0 0].toArray 76 (0, 0))]) (U := .blk r0 (.cells [.slice none 0 0, .slice none 0 0, .slice none 0 0].toArray 76 (0, 0)) :: H) rfl (Mem.le.refl _) zpk ?_
          refine WE.acts [2] (by decide +kernel) (all_cons ?_ (all_nil))
          · refine Acts.mk rfl rfl (fun c h => by cases h) ?_
            refine WL.makeRow (k:=N + 1) (sz:=1) (by':=16) (zs:=[str []]) rfl rfl (by omega) (by omega) rfl rfl rfl rfl rfl rfl (by decide) (by omega) (by omega) rfl ?_; intro q2; refine WL.nil ?_
            refine WQ.acted (B := [.row (some ⟨q2, 0, none⟩) (N + 1) 9 1 (List.replicate (N + 1) [str []])]) (U := .blk r0 (.cells [.slice none 0 0, .slice none 0 0, .slice none 0 0].toArray 76 (0, 0)) :: H) rfl (Mem.le.refl _) zpk ?_
            (refine WE.calm 7 (by decide +kernel) rfl rfl (by decide +kernel) rfl (fun c h => by cases h) (by intro zm zF zle; exact sq_E11_1) ?_)
            refine WE.done (by decide +kernel) ?_
            (try (refine st_E11_1 ?_; intros))
            exact WQ.join ⟨q2, q4, q6, b, rfl, rfl, rfl, rfl⟩ zsb zpk
      · refine Acts.mk rfl rfl (fun c h => by cases h) ?_
        refine WL.alloc (cs := [.slice none 0 0, .slice none 0 0, .slice none 0 0]) rfl rfl rfl ?_; intro b; refine WL.nil ?_
        refine WQ.acted (B := [.blk b (.cells [.slice none 0 0, .slice none 0 0, .slice none 0 0].toArray 76 (0, 0))]) (U := .blk r0 (.cells [.slice none 0 0, .slice none 0 0, .slice none 0 0].toArray 76 (0, 0)) :: H) rfl (Mem.le.refl _) zpk ?_
        refine WE.acts [2, 6] (by decide +kernel) (all_cons ?_ (all_cons ?_ (all_nil)))
        · refine Acts.mk rfl rfl (fun c h => by cases h) ?_
          refine WL.makeRow (k:=N + 1) (sz:=1) (by':=16) (zs:=[str []]) rfl rfl (by omega) (by omega) rfl rfl rfl rfl rfl rfl (by decide) (by omega) (by omega) rfl ?_; intro q2; refine WL.nil ?_
          refine WQ.acted (B := [.row (some ⟨q2, 0, none⟩) (N + 1) 9 1 (List.replicate (N + 1) [str []])]) (U := .blk r0 (.cells [.slice none 0 0, .slice none 0 0, .slice none 0 0].toArray 76 (0, 0)) :: H) rfl (Mem.le.refl _) zpk ?_
          refine WE.acts [6] (by decide +kernel) (all_cons ?_ (all_nil))
          · refine Acts.mk rfl rfl (fun c h => by cases h) ?_
            refine WL.makeRow (k:=N) (sz:=1) (by':=1) (zs:=[.int .u8 0]) rfl rfl rfl rfl rfl rfl rfl rfl rfl rfl (by decide) (by omega) (by omega) rfl ?_; intro q6; refine WL.nil ?_
            refine WQ.acted (B := [.row (some ⟨q6, 0, none⟩) N 5 1 (List.replicate N [.int .u8 0])]) (U := .blk r0 (.cells [.slice none 0 0, .slice none 0 0, .slice none 0 0].toArray 76 (0, 0)) :: H) rfl (Mem.le.refl _) zpk ?_
            (refine WE.calm 7 (by decide +kernel) rfl rfl (by decide +kernel) rfl (fun c h => by cases h) (by intro zm zF zle; exact sq_E11_1) ?_)
            refine WE.done (by decide +kernel) ?_
            (try (refine st_E11_1 ?_; intros))
            exact WQ.join ⟨q2, q4, q6, b, rfl, rfl, rfl, rfl⟩ zsb zpk
        · refine Acts.mk rfl rfl (fun c h => by cases h) ?_
          refine WL.makeRow (k:=N) (sz:=1) (by':=1) (zs:=[.int .u8 0]) rfl rfl rfl rfl rfl rfl rfl rfl rfl rfl (by decide) (by omega) (by omega) rfl ?_; intro q6; refine WL.nil ?_
          refine WQ.acted (B := [.row (some ⟨q6, 0, none⟩) N 5 1 (List.replicate N [.int .u8 0])]) (U := .blk r0 (.cells [.slice none 0 0, .slice none 0 0, .slice none 0 0].toArray 76 (0, 0)) :: H) rfl (Mem.le.refl _) zpk ?_
          refine WE.acts [2] (by decide +kernel) (all_cons ?_ (all_nil))
          · refine Acts.mk rfl rfl (fun c h => by cases h) ?_
            refine WL.makeRow (k:=N + 1) (sz:=1) (by':=16) (zs:=[str []]) rfl rfl (by omega) (by omega) rfl rfl rfl rfl rfl rfl (by decide) (by omega) (by omega) rfl ?_; intro q2; refine WL.nil ?_
            refine WQ.acted (B := [.row (some ⟨q2, 0, none⟩) (N + 1) 9 1 (List.replicate (N + 1) [str []])]) (U := .blk r0 (.cells [.slice none 0 0, .slice none 0 0, .slice none 0 0].toArray 76 (0, 0)) :: H) rfl (Mem.le.refl _) zpk ?_
            (refine WE.calm 7 (by decide +kernel) rfl rfl (by decide +kernel) rfl (fun c h => by cases h) (by intro zm zF zle; exact sq_E11_1) ?_)
            refine WE.done (by decide +kernel) ?_
            (try (refine st_E11_1 ?_; intros))
            exact WQ.join ⟨q2, q4, q6, b, rfl, rfl, rfl, rfl⟩ zsb zpk
    · refine Acts.mk rfl rfl (fun c h => by cases h) ?_
      refine WL.makeRow (k:=N) (sz:=1) (by':=1) (zs:=[.int .u8 0]) rfl rfl rfl rfl rfl rfl rfl rfl rfl rfl (by decide) (by omega) (by omega) rfl ?_; intro q6; refine WL.nil ?_
      refine WQ.acted (B := [.row (some ⟨q6, 0, none⟩) N 5 1 (List.replicate N [.int .u8 0])]) (U := .blk r0 (.cells [.slice none 0 0, .slice none 0 0, .slice none 0 0].toArray 76 (0, 0)) :: H) rfl (Mem.le.refl _) zpk ?_
      refine WE.acts [2, 4, 8] (by decide +kernel) (all_cons ?_ (all_cons ?_ (all_cons ?_ (all_nil))))
      · refine Acts.mk rfl rfl (fun c h => by cases h) ?_
        refine WL.makeRow (k:=N + 1) (sz:=1) (by':=16) (zs:=[str []]) rfl rfl (by omega) (by omega) rfl rfl rfl rfl rfl rfl (by decide) (by omega) (by omega) rfl ?_; intro q2; refine WL.nil ?_
        refine WQ.acted (B := [.row (some ⟨q2, 0, none⟩) (N + 1) 9 1 (List.replicate (N + 1) [str []])]) (U := .blk r0 (.cells [.slice none 0 0, .slice none 0 0, .slice none 0 0].toArray 76 (0, 0)) :: H) rfl (Mem.le.refl _) zpk ?_
        refine WE.acts [4, 8] (by decide +kernel) (all_cons ?_ (all_cons ?_ (all_nil)))
        · refine Acts.mk rfl rfl (fun c h => by cases h) ?_
          refine WL.makeRow (k:=N) (sz:=1) (by':=1) (zs:=[.bool false]) rfl rfl rfl rfl rfl rfl rfl rfl rfl rfl (by decide) (by omega) (by omega) rfl ?_; intro q4; refine WL.nil ?_
          refine WQ.acted (B := [.row (some ⟨q4, 0, none⟩) N 4 1 (List.replicate N [.bool false])]) (U := .blk r0 (.cells [.slice none 0 0, .slice none 0 0, .slice none 0 0].toArray 76 (0, 0)) :: H) rfl (Mem.le.refl _) zpk ?_
          (refine WE.calm 7 (by decide +kernel) rfl rfl (by decide +kernel) rfl (fun c h => by cases h) (by intro zm zF zle; exact sq_E11_1) ?_)
          refine WE.acts [8] (by decide +kernel) (all_cons ?_ (all_nil))
          · refine Acts.mk rfl rfl (fun c h => by cases h) ?_
            refine WL.alloc (cs := [.slice none 0 0, .slice none 0 0, .slice none 0 0]) rfl rfl rfl ?_; intro b; refine WL.nil ?_
            refine WQ.acted (B := [.blk b (.cells [.slice none 0 0, .slice none 0 0, .slice none 0 0].toArray 76 (0, 0))]) (U := .blk r0 (.cells [.slice none 0 0, .slice none 0 0, .slice none 0 0].toArray 76 (0, 0)) :: H) rfl (Mem.le.refl _) zpk ?_
            refine WE.done (by decide +kernel) ?_
            (try (refine st_E11_1 ?_; intros))
            exact WQ.join ⟨q2, q4, q6, b, rfl, rfl, rfl, rfl⟩ zsb zpk
        · refine Acts.mk rfl rfl (fun c h => by cases h) ?_
          refine WL.alloc (cs := [.slice none 0 0, .slice none 0 0, .slice none 0 0]) rfl rfl rfl ?_; intro b; refine WL.nil ?_
          refine WQ.acted (B := [.blk b (.cells [.slice none 0 0, .slice none 0 0, .slice none 0 0].toArray 76 (0, 0))]) (U := .blk r0 (.cells [.slice none 0 0, .slice none 0 0, .slice none 0 0].toArray 76 (0, 0)) :: H) rfl (Mem.le.refl _) zpk ?_
          refine WE.acts [4] (by decide +kernel) (all_cons ?_ (all_nil))
          · refine Acts.mk rfl rfl (fun c h => by cases h) ?_
            refine WL.makeRow (k:=N) (sz:=1) (by':=1) (zs:=[.bool false]) rfl rfl rfl rfl rfl rfl rfl rfl rfl rfl (by decide) (by omega) (by omega) rfl ?_; intro q4; refine WL.nil ?_
            refine WQ.acted (B := [.row (some ⟨q4, 0, none⟩) N 4 1 (List.replicate N [.bool false])]) (U := .blk r0 (.cells [.slice none 0 0, .slice none 0 0, .slice none 0 0].toArray 76 (0, 0)) :: H) rfl (Mem.le.refl _) zpk ?_
            (refine WE.calm 7 (by decide +kernel) rfl rfl (by decide +kernel) rfl (fun c h => by cases h) (by intro zm zF zle; exact sq_E11_1) ?_)
            refine WE.done (by decide +kernel) ?_
            (try (refine st_E11_1 ?_; intros))
            exact WQ.join ⟨q2, q4, q6, b, rfl, rfl, rfl, rfl⟩ zsb zpk
      · refine Acts.mk rfl rfl (fun c h => by cases h) ?_
        refine WL.makeRow (k:=N) (sz:=1) (by':=1) (zs:=[.bool false]) rfl rfl rfl rfl rfl rfl rfl rfl rfl rfl (by decide) (by omega) (by omega) rfl ?_; intro q4; refine WL.nil ?_
        refine WQ.acted (B := [.row (some ⟨q4, 0, none⟩) N 4 1 (List.replicate N [.bool false])]) (U := .blk r0 (.cells [.slice none 0 0, .slice none 0 0, .slice none 0 0].toArray 76 (0, 0)) :: H) rfl (Mem.le.refl _) zpk ?_
        refine WE.acts [2, 8] (by decide +kernel) (all_cons ?_ (all_cons ?_ (all_nil)))
        · refine Acts.mk rfl rfl (fun c h => by cases h) ?_
          refine WL.makeRow (k:=N + 1) (sz:=1) (by':=16) (zs:=[str []]) rfl rfl (by omega) (by omega) rfl rfl rfl rfl rfl rfl (by decide) (by omega) (by omega) rfl ?_; intro q2; refine WL.nil ?_
          refine WQ.acted (B := [.row (some ⟨q2, 0, none⟩) (N + 1) 9 1 (List.replicate (N + 1) [str []])]) (U := .blk r0 (.cells [.slice none 0 0, .slice none 0 0, .slice none 0 0].toArray 76 (0, 0)) :: H) rfl (Mem.le.refl _) zpk ?_
          (refine WE.calm 7 (by decide +kernel) rfl rfl (by decide +kernel) rfl (fun c h => by cases h) (by intro zm zF zle; exact sq_E11_1) ?_)
          refine WE.acts [8] (by decide +kernel) (all_cons ?_ (all_nil))
          · refine Acts.mk rfl rfl (fun c h => by cases h) ?_
            refine WL.alloc (cs := [.slice none 0 0, .slice none 0 0, .slice none 0 0]) rfl rfl rfl ?_; intro b; refine WL.nil ?_
            refine WQ.acted (B := [.blk b (.cells [.slice none 0 0, .slice none 0 0, .slice none 0 0].toArray 76 (0, 0))]) (U := .blk r0 (.cells [.slice none 0 0, .slice none 0 0, .slice none 0 0].toArray 76 (0, 0)) :: H) rfl (Mem.le.refl _) zpk ?_
            refine WE.done (by decide +kernel) ?_
            (try (refine st_E11_1 ?_; intros))
            exact WQ.join ⟨q2, q4, q6, b, rfl, rfl, rfl, rfl⟩ zsb zpk
        · refine Acts.mk rfl rfl (fun c h => by cases h) ?_
          refine WL.alloc (cs := [.slice none 0 0, .slice none 0 0, .slice none 0 0]) rfl rfl rfl ?_; intro b; refine WL.nil ?_
          refine WQ.acted (B := [.blk b (.cells [.slice none 0 0, .slice none 0 0, .slice none 0 0].toArray 76 (0, 0))]) (U := .blk r0 (.cells [.slice none 0 0, .slice none 0 0, .slice none 0 0].toArray 76 (0, 0)) :: H) rfl (Mem.le.refl _) zpk ?_
          refine WE.acts [2] (by decide +kernel) (all_cons ?_ (all_nil))
          · refine Acts.mk rfl rfl (fun c h => by cases h) ?_
            refine WL.makeRow (k:=N + 1) (sz:=1) (by':=16) (zs:=[str []]) rfl rfl (by omega) (by omega) rfl rfl rfl rfl rfl rfl (by decide) (by omega) (by omega) rfl ?_; intro q2; refine WL.nil ?_
            refine WQ.acted (B := [.row (some ⟨q2, 0, none⟩) (N + 1) 9 1 (List.replicate (N + 1) [str []])]) (U := .blk r0 (.cells [.slice none 0 0, .slice none 0 0, .slice none 0 0].toArray 76 (0, 0)) :: H) rfl (Mem.le.refl _) zpk ?_
            (refine WE.calm 7 (by decide +kernel) rfl rfl (by decide +kernel) rfl (fun c h => by cases h) (by intro zm zF zle; exact sq_E11_1) ?_)
            refine WE.done (by decide +kernel) ?_
            (try (refine st_E11_1 ?_; intros))
            exact WQ.join ⟨q2, q4, q6, b, rfl, rfl, rfl, rfl⟩ zsb zpk
      · refine Acts.mk rfl rfl (fun c h => by cases h) ?_
        refine WL.alloc (cs := [.slice none 0 0, .slice none 0 0, .slice none 0 0]) rfl rfl rfl ?_; intro b; refine WL.nil ?_
        refine WQ.acted (B := [.blk b (.cells [.slice none 0 0, .slice none 0 0, .slice none 0 0].toArray 76 (0, 0))]) (U := .blk r0 (.cells [.slice none 0 0, .slice none 0 0, .slice none 0 0].toArray 76 (0, 0)) :: H) rfl (Mem.le.refl _) zpk ?_
        refine WE.acts [2, 4] (by decide +kernel) (all_cons ?_ (all_cons ?_ (all_nil)))
        · refine Acts.mk rfl rfl (fun c h => by cases h) ?_
          refine WL.makeRow (k:=N + 1) (sz:=1) (by':=16) (zs:=[str []]) rfl rfl (by omega) (by omega) rfl rfl rfl rfl rfl rfl (by decide) (by omega) (by omega) rfl ?_; intro q2; refine WL.nil ?_
          refine WQ.acted (B := [.row (some ⟨q2, 0, none⟩) (N + 1) 9 1 (List.replicate (N + 1) [str []])]) (U := .blk r0 (.cells [.slice none 0 0, .slice none 0 0, .slice none 0 0].toArray 76 (0, 0)) :: H) rfl (Mem.le.refl _) zpk ?_
          refine WE.acts [4] (by decide +kernel) (all_cons ?_ (all_nil))
          · refine Acts.mk rfl rfl (fun c h => by cases h) ?_
            refine WL.makeRow (k:=N) (sz:=1) (by':=1) (zs:=[.bool false]) rfl rfl rfl rfl rfl rfl rfl rfl rfl rfl (by decide) (by omega) (by omega) rfl ?_; intro q4; refine WL.nil ?_
            refine WQ.acted (B := [.row (some ⟨q4, 0, none⟩) N 4 1 (List.replicate N [.bool false])]) (U := .blk r0 (.cells [.slice none 0 0, .slice none 0 0, .slice none 0 0].toArray 76 (0, 0)) :: H) rfl (Mem.le.refl _) zpk ?_
            (refine WE.calm 7 (by decide +kernel) rfl rfl (by decide +kernel) rfl (fun c h => by cases h) (by intro zm zF zle; exact sq_E11_1) ?_)
            refine WE.done (by decide +kernel) ?_
            (try (refine st_E11_1 ?_; intros))
            exact WQ.join ⟨q2, q4, q6, b, rfl, rfl, rfl, rfl⟩ zsb zpk
        · refine Acts.mk rfl rfl (fun c h => by cases h) ?_
          refine WL.makeRow (k:=N) (sz:=1) (by':=1) (zs:=[.bool false]) rfl rfl rfl rfl rfl rfl rfl rfl rfl rfl (by decide) (by omega) (by omega) rfl ?_; intro q4; refine WL.nil ?_
          refine WQ.acted (B := [.row (some ⟨q4, 0, none⟩) N 4 1 (List.replicate N [.bool false])]) (U := .blk r0 (.cells [.slice none 0 0, .slice none 0 0, .slice none 0 0].toArray 76 (0, 0)) :: H) rfl (Mem.le.refl _) zpk ?_
          refine WE.acts [2] (by decide +kernel) (all_cons ?_ (all_nil))
          · refine Acts.mk rfl rfl (fun c h => by cases h) ?_
            refine WL.makeRow (k:=N + 1) (sz:=1) (by':=16) (zs:=[str []]) rfl rfl (by omega) (by omega) rfl rfl rfl rfl rfl rfl (by decide) (by omega) (by omega) rfl ?_; intro q2; refine WL.nil ?_
            refine WQ.acted (B := [.row (some ⟨q2, 0, none⟩) (N + 1) 9 1 (List.replicate (N + 1) [str []])]) (U := .blk r0 (.cells [.slice none 0 0, .slice none 0 0, .slice none 0 0].toArray 76 (0, 0)) :: H) rfl (Mem.le.refl _) zpk ?_
            (refine WE.calm 7 (by decide +kernel) rfl rfl (by decide +kernel) rfl (fun c h => by cases h) (by intro zm zF zle; exact sq_E11_1) ?_)
            refine WE.done (by decide +kernel) ?_
            (try (refine st_E11_1 ?_; intros))
            exact WQ.join ⟨q2, q4, q6, b, rfl, rfl, rfl, rfl⟩ zsb zpk
    · refine Acts.mk rfl rfl (fun c h => by cases h) ?_
      refine WL.alloc (cs := [.slice none 0 0, .slice none 0 0, .slice none 0 0]) rfl rfl rfl ?_; intro b; refine WL.nil ?_
      refine WQ.acted (B := [.blk b (.cells [.slice none 0 0, .slice none 0 0, .slice none 0 0].toArray 76 (0, 0))]) (U := .blk r0 (.cells [.slice none 0 0, .slice none 0 0, .slice none 0 0].toArray 76 (0, 0)) :: H) rfl (Mem.le.refl _) zpk ?_
      refine WE.acts [2, 4, 6] (by decide +kernel) (all_cons ?_ (all_cons ?_ (all_cons ?_ (all_nil))))
      · refine Acts.mk rfl rfl (fun c h => by cases h) ?_
        refine WL.makeRow (k:=N + 1) (sz:=1) (by':=16) (zs:=[str []]) rfl rfl (by omega) (by omega) rfl rfl rfl rfl rfl rfl (by decide) (by omega) (by omega) rfl ?_; intro q2; refine WL.nil ?_
        refine WQ.acted (B := [.row (some ⟨q2, 0, none⟩) (N + 1) 9 1 (List.replicate (N + 1) [str []])]) (U := .blk r0 (.cells [.slice none 0 0, .slice none 0 0, .slice none 0 0].toArray 76 (0, 0)) :: H) rfl (Mem.le.refl _) zpk ?_
        refine WE.acts [4, 6] (by decide +kernel) (all_cons ?_ (all_cons ?_ (all_nil)))
        · refine Acts.mk rfl rfl (fun c h => by cases h) ?_
          refine WL.makeRow (k:=N) (sz:=1) (by':=1) (zs:=[.bool false]) rfl rfl rfl rfl rfl rfl rfl rfl rfl rfl (by decide) (by omega) (by omega) rfl ?_; intro q4; refine WL.nil ?_
          refine WQ.acted (B := [.row (some ⟨q4, 0, none⟩) N 4 1 (List.replicate N [.bool false])]) (U := .blk r0 (.cells [.slice none 0 0, .slice none 0 0, .slice none 0 0].toArray 76 (0, 0)) :: H) rfl (Mem.le.refl _) zpk ?_
          refine WE.acts [6] (by decide +kernel) (all_cons ?_ (all_nil))
          · refine Acts.mk rfl rfl (fun c h => by cases h) ?_
            refine WL.makeRow (k:=N) (sz:=1) (by':=1) (zs:=[.int .u8 0]) rfl rfl rfl rfl rfl rfl rfl rfl rfl rfl (by decide) (by omega) (by omega) rfl ?_; intro q6; refine WL.nil ?_
            refine WQ.acted (B := [.row (some ⟨q6, 0, none⟩) N 5 1 (List.replicate N [.int .u8 0])]) (U := .blk r0 (.cells [.slice none 0 0, .slice none 0 0, .slice none 0 0].toArray 76 (0, 0)) :: H) rfl (Mem.le.refl _) zpk ?_
            (refine WE.calm 7 (by decide +kernel) rfl rfl (by decide +kernel) rfl (fun c h => by cases h) (by intro zm zF zle; exact sq_E11_1) ?_)
            refine WE.done (by decide +kernel) ?_
            (try (refine st_E11_1 ?_; intros))
            exact WQ.join ⟨q2, q4, q6, b, rfl, rfl, rfl, rfl⟩ zsb zpk
        · refine Acts.mk rfl rfl (fun c h => by cases h) ?_
          refine WL.makeRow (k:=N) (sz:=1) (by':=1) (zs:=[.int .u8 0]) rfl rfl rfl rfl rfl rfl rfl rfl rfl rfl (by decide) (by omega) (by omega) rfl ?_; intro q6; refine WL.nil ?_
          refine WQ.acted (B := [.row (some ⟨q6, 0, none⟩) N 5 1 (List.replicate N [.int .u8 0])]) (U := .blk r0 (.cells [.slice none 0 0, .slice none 0 0, .slice none 0 0].toArray 76 (0, 0)) :: H) rfl (Mem.le.refl _) zpk ?_
          refine WE.acts [4] (by decide +kernel) (all_cons ?_ (all_nil))
          · refine Acts.mk rfl rfl (fun c h => by cases h) ?_
            refine WL.makeRow (k:=N) (sz:=1) (by':=1) (zs:=[.bool false]) rfl rfl rfl rfl rfl rfl rfl rfl rfl rfl (by decide) (by omega) (by omega) rfl ?_; intro q4; refine WL.nil ?_
            refine WQ.acted (B := [.row (some ⟨q4, 0, none⟩) N 4 1 (List.replicate N [.bool false])]) (U := .blk r0 (.cells [.slice none 0 0, .slice none 0 0, .slice none 0 0].toArray 76 (0, 0)) :: H) rfl (Mem.le.refl _) zpk ?_
            (refine WE.calm 7 (by decide +kernel) rfl rfl (by decide +kernel) rfl (fun c h => by cases h) (by intro zm zF zle; exact sq_E11_1) ?_)
            refine WE.done (by decide +kernel) ?_
            (try (refine st_E11_1 ?_; intros))
            exact WQ.join ⟨q2, q4, q6, b, rfl, rfl, rfl, rfl⟩ zsb zpk
      · refine Acts.mk rfl rfl (fun c h => by cases h) ?_
        refine WL.makeRow (k:=N) (sz:=1) (by':=1) (zs:=[.bool false]) rfl rfl rfl rfl rfl rfl rfl rfl rfl rfl (by decide) (by omega) (by omega) rfl ?_; intro q4; refine WL.nil ?_
        refine WQ.acted (B := [.row (some ⟨q4, 0, none⟩) N 4 1 (List.replicate N [.bool false])]) (U := .blk r0 (.cells [.slice none 0 0, .slice none 0 0, .slice none 0 0].toArray 76 (0, 0)) :: H) rfl (Mem.le.refl _) zpk ?_
        refine WE.acts [2, 6] (by decide +kernel) (all_cons ?_ (all_cons ?_ (all_nil)))
        · refine Acts.mk rfl rfl (fun c h => by cases h) ?_
          refine WL.makeRow (k:=N + 1) (sz:=1) (by':=16) (zs:=[str []]) rfl rfl (by omega) (by omega) rfl rfl rfl rfl rfl rfl (by decide) (by omega) (by omega) rfl ?_; intro q2; refine WL.nil ?_
          refine WQ.acted (B := [.row (some ⟨q2, 0, none⟩) (N + 1) 9 1 (List.replicate (N + 1) [str []])]) (U := .blk r0 (.cells [.slice none 0 0, .slice none 0 0, .slice none 0 0].toArray 76 (0, 0)) :: H) rfl (Mem.le.refl _) zpk ?_
          refine WE.acts [6] (by decide +kernel) (all_cons ?_ (all_nil))
          · refine Acts.mk rfl rfl (fun c h => by cases h) ?_
            refine WL.makeRow (k:=N) (sz:=1) (by':=1) (zs:=[.int .u8 0]) rfl rfl rfl rfl rfl rfl rfl rfl rfl rfl (by decide) (by omega) (by omega) rfl ?_; intro q6; refine WL.nil ?_
            refine WQ.acted (B := [.row (some ⟨q6, 0, none⟩) N 5 1 (List.replicate N [.int .u8 0])]) (U := .blk r0 (.cells [.slice none 0 0, .slice none 0 0, .slice none 0 0].toArray 76 (0, 0)) :: H) rfl (Mem.le.refl _) zpk ?_
            (refine WE.calm 7 (by decide +kernel) rfl rfl (by decide +kernel) rfl (fun c h => by cases h) (by intro zm zF zle; exact sq_E11_1) ?_)
            refine WE.done (by decide +kernel) ?_
            (try (refine st_E11_1 ?_; intros))
            exact WQ.join ⟨q2, q4, q6, b, rfl, rfl, rfl, rfl⟩ zsb zpk
        · refine Acts.mk rfl rfl (fun c h => by cases h) ?_
          refine WL.makeRow (k:=N) (sz:=1) (by':=1) (zs:=[.int .u8 0]) rfl rfl rfl rfl rfl rfl rfl rfl rfl rfl (by decide) (by omega) (by omega) rfl ?_; intro q6; refine WL.nil ?_
          refine WQ.acted (B := [.row (some ⟨q6, 0, none⟩) N 5 1 (List.replicate N [.int .u8 0])]) (U := .blk r0 (.cells [.slice none 0 0, .slice none 0 0, .slice none 0 0].toArray 76 (0, 0)) :: H) rfl (Mem.le.refl _) zpk ?_
          refine WE.acts [2] (by decide +kernel) (all_cons ?_ (all_nil))
          · refine Acts.mk rfl rfl (fun c h => by cases h) ?_
            refine WL.makeRow (k:=N + 1) (sz:=1) (by':=16) (zs:=[str []]) rfl rfl (by omega) (by omega) rfl rfl rfl rfl rfl rfl (by decide) (by omega) (by omega) rfl ?_; intro q2; refine WL.nil ?_
            refine WQ.acted (B := [.row (some ⟨q2, 0, none⟩) (N + 1) 9 1 (List.replicate (N + 1) [str []])]) (U := .blk r0 (.cells [.slice none 0 0, .slice none 0 0, .slice none 0 0].toArray 76 (0, 0)) :: H) rfl (Mem.le.refl _) zpk ?_
            (refine WE.calm 7 (by decide +kernel) rfl rfl (by decide +kernel) rfl (fun c h => by cases h) (by intro zm zF zle; exact sq_E11_1) ?_)
            refine WE.done (by decide +kernel) ?_
            (try (refine st_E11_1 ?_; intros))
            exact WQ.join ⟨q2, q4, q6, b, rfl, rfl, rfl, rfl⟩ zsb zpk
      · refine Acts.mk rfl rfl (fun c h => by cases h) ?_
        refine WL.makeRow (k:=N) (sz:=1) (by':=1) (zs:=[.int .u8 0]) rfl rfl rfl rfl rfl rfl rfl rfl rfl rfl (by decide) (by omega) (by omega) rfl ?_; intro q6; refine WL.nil ?_
        refine WQ.acted (B := [.row (some ⟨q6, 0, none⟩) N 5 1 (List.replicate N [.int .u8 0])]) (U := .blk r0 (.cells [.slice none 0 0, .slice none 0 0, .slice none 0 0].toArray 76 (0, 0)) :: H) rfl (Mem.le.refl _) zpk ?_
        refine WE.acts [2, 4] (by decide +kernel) (all_cons ?_ (all_cons ?_ (all_nil)))
        · refine Acts.mk rfl rfl (fun c h => by cases h) ?_
          refine WL.makeRow (k:=N + 1) (sz:=1) (by':=16) (zs:=[str []]) rfl rfl (by omega) (by omega) rfl rfl rfl rfl rfl rfl (by decide) (by omega) (by omega) rfl ?_; intro q2; refine WL.nil ?_
          refine WQ.acted (B := [.row (some ⟨q2, 0, none⟩) (N + 1) 9 1 (List.replicate (N + 1) [str []])]) (U := .blk r0 (.cells [.slice none 0 0, .slice none 0 0, .slice none 0 0].toArray 76 (0, 0)) :: H) rfl (Mem.le.refl _) zpk ?_
          refine WE.acts [4] (by decide +kernel) (all_cons ?_ (all_nil))
          · refine Acts.mk rfl rfl (fun c h => by cases h) ?_
            refine WL.makeRow (k:=N) (sz:=1) (by':=1) (zs:=[.bool false]) rfl rfl rfl rfl rfl rfl rfl rfl rfl rfl (by decide) (by omega) (by omega) rfl ?_; intro q4; refine WL.nil ?_
            refine WQ.acted (B := [.row (some ⟨q4, 0, none⟩) N 4 1 (List.replicate N [.bool false])]) (U := .blk r0 (.cells [.slice none 0 0, .slice none 0 0, .slice none 0 0].toArray 76 (0, 0)) :: H) rfl (Mem.le.refl _) zpk ?_
            (refine WE.calm 7 (by decide +kernel) rfl rfl (by decide +kernel) rfl (fun c h => by cases h) (by intro zm zF zle; exact sq_E11_1) ?_)
            refine WE.done (by decide +kernel) ?_
            (try (refine st_E11_1 ?_; intros))
            exact WQ.join ⟨q2, q4, q6, b, rfl, rfl, rfl, rfl⟩ zsb zpk
        · refine Acts.mk rfl rfl (fun c h => by cases h) ?_
          refine WL.makeRow (k:=N) (sz:=1) (by':=1) (zs:=[.bool false]) rfl rfl rfl rfl rfl rfl rfl rfl rfl rfl (by decide) (by omega) (by omega) rfl ?_; intro q4; refine WL.nil ?_
          refine WQ.acted (B := [.row (some ⟨q4, 0, none⟩) N 4 1 (List.replicate N [.bool false])]) (U := .blk r0 (.cells [.slice none 0 0, .slice none 0 0, .slice none 0 0].toArray 76 (0, 0)) :: H) rfl (Mem.le.refl _) zpk ?_
          refine WE.acts [2] (by decide +kernel) (all_cons ?_ (all_nil))
          · refine Acts.mk rfl rfl (fun c h => by cases h) ?_
            refine WL.makeRow (k:=N + 1) (sz:=1) (by':=16) (zs:=[str []]) rfl rfl (by omega) (by omega) rfl rfl rfl rfl rfl rfl (by decide) (by omega) (by omega) rfl ?_; intro q2; refine WL.nil ?_
            refine WQ.acted (B := [.row (some ⟨q2, 0, none⟩) (N + 1) 9 1 (List.replicate (N + 1) [str []])]) (U := .blk r0 (.cells [.slice none 0 0, .slice none 0 0, .slice none 0 0].toArray 76 (0, 0)) :: H) rfl (Mem.le.refl _) zpk ?_
            (refine WE.calm 7 (by decide +kernel) rfl rfl (by decide +kernel) rfl (fun c h => by cases h) (by intro zm zF zle; exact sq_E11_1) ?_)
            refine WE.done (by decide +kernel) ?_
            (try (refine st_E11_1 ?_; intros))
            exact WQ.join ⟨q2, q4, q6, b, rfl, rfl, rfl, rfl⟩ zsb zpk
  rintro _ _ _ _ ⟨q2, q4, q6, b, rfl, rfl, rfl, rfl⟩
  obtain ⟨s1, s2, s3⟩ := pads_start N
  rw [← s1, ← s2, ← s3]
  (try (refine st_E11_1 ?_; intros))
  have hg0 : atOf Gs.start = 0 ∧ gapAt Gs.start = 0 := by unfold atOf gapAt; exact ⟨rfl, rfl⟩
  refine WC.loopH [(9, .int .i64 ((0) : Int)), (8, .int .i64 ((0) : Int)), (7, .int .i64 ((0) : Int)), (6, .pointer (some ⟨b, 0, none⟩)), (2, .pointer (some ⟨r0, 0, none⟩)), (0, .slice a l.length cap)] ?_ ?_ (fun j r ds m' H' => ∃ (i : Nat) (g : Gs) (ga : Nat) (p : Nat), j = l.length - i ∧ r = [(9, .int .i64 (i : Int)), (8, .int .i64 (ga : Int)), (7, .int .i64 (p : Int)), (6, .pointer (some ⟨b, 0, none⟩)), (2, .pointer (some ⟨r0, 0, none⟩)), (0, .slice a l.length cap)] ∧ ds = [] ∧ m = m' ∧ H' = .blk b (.cells [.slice (some ⟨q2, 0, none⟩) (N + 1) (N + 1), .slice (some ⟨q4, 0, none⟩) N N, .slice (some ⟨q6, 0, none⟩) N N].toArray 76 (0, 0)) :: .blk r0 (.cells [.slice none 0 0, .slice none 0 0, .slice none 0 0].toArray 76 (0, 0)) :: .row (some ⟨q2, 0, none⟩) (N + 1) 9 1 ((putsPad N g).map sV) :: .row (some ⟨q4, 0, none⟩) N 4 1 ((dropsPad N g).map oV) :: .row (some ⟨q6, 0, none⟩) N 5 1 ((bytesPad N g).map uV) :: H ∧ (i ≤ l.length) ∧ (ga = gapAt g) ∧ (p = atOf g) ∧ ((l.drop i).foldl Gs.step g = gapsOf l) ∧ (atOf g + fromA (atomsOf (l.drop i)) = N) ∧ (g = gapsOf (l.take i))) (l.length - (0)) ⟨0, Gs.start, 0, 0, rfl, rfl, rfl, rfl, rfl, by omega, hg0.2.symm, hg0.1.symm, rfl, by rw [List.drop_zero]; omega, by rw [List.take_zero]; rfl⟩ ?_
  · (repeat (first | exact Env.Sub.nil | refine Env.Sub.cons rfl ?_))
  · exact zpk
  rintro j r ds m' H' ⟨i, g, ga, p, rfl, rfl, rfl, rfl, rfl, hi, hga0, hp0, hg, hN, hgr⟩
  subst hga0; subst hp0
  have hat : atOf g ≤ N := by omega
  obtain ⟨p1, p2, p3⟩ := pads_len hat
  have hga : gapAt g ≤ atOf g := by unfold atOf; omega
  by_cases hlt : i < l.length
  · obtain ⟨x, hx, hget, htk, hmem, hdr⟩ := at_idx (f := Stp.cs) hlt
    have hxok := hok x hmem
    rw [hdr, List.foldl_cons, step_parts hxok] at hg
    rw [hdr, atoms_cons, fromA_append, from_step] at hN
    have hxp := hf.p x hmem
    have hxd := hf.d x hmem
    have hxk := hf.k x hmem
    have hr1 := ((((hr.more (i := .row (some ⟨q6, 0, none⟩) N 5 1 ((bytesPad N g).map uV))).more (i := .row (some ⟨q4, 0, none⟩) N 4 1 ((dropsPad N g).map oV))).more (i := .row (some ⟨q2, 0, none⟩) (N + 1) 9 1 ((putsPad N g).map sV))).more (i := .blk r0 (.cells [.slice none 0 0, .slice none 0 0, .slice none 0 0].toArray 76 (0, 0)))).more (i := .blk b (.cells [.slice (some ⟨q2, 0, none⟩) (N + 1) (N + 1), .slice (some ⟨q4, 0, none⟩) N N, .slice (some ⟨q6, 0, none⟩) N N].toArray 76 (0, 0)))
    refine WC.rSome hr1 (by omega) ?_
    rintro a0 rfl
    obtain ⟨u1, u2⟩ := put_puts (N := N) (g := g) (s := x.p) hat
    obtain ⟨u3, u4⟩ := put_at g x.p
    have u5 : ((putsPad N g).map sV)[gapAt g]? = some [str g.cur.p] := by rw [List.getElem?_map, u2]; rfl
    have u6 : ((putsPad N g).map sV).set (gapAt g) [str (g.cur.p ++ x.p)] = (putsPad N (g.put x.p)).map sV := by rw [u1, List.map_set]; rfl
    (refine st_E11_1 ?_; intros; rename_i bx)
    refine WC.join (fun r' ds' m' H' => r' = [(6, .pointer (some ⟨b, 0, none⟩)), (7, .int .i64 (atOf g : Int)), (8, .int .i64 (gapAt g : Int)), (9, .int .i64 (i : Int)), (10, .pointer (some ⟨bx, 0, none⟩)), (2, .pointer (some ⟨r0, 0, none⟩)), (0, .slice (some a0) l.length cap)] ∧ ds' = [] ∧ m = m' ∧ H' = .blk bx (.cells [.int .i64 x.k, str x.d, str x.p].toArray 55 (0, 0)) :: .blk b (.cells [.slice (some ⟨q2, 0, none⟩) (N + 1) (N + 1), .slice (some ⟨q4, 0, none⟩) N N, .slice (some ⟨q6, 0, none⟩) N N].toArray 76 (0, 0)) :: .blk r0 (.cells [.slice none 0 0, .slice none 0 0, .slice none 0 0].toArray 76 (0, 0)) :: .row (some ⟨q2, 0, none⟩) (N + 1) 9 1 ((putsPad N (g.put x.p)).map sV) :: .row (some ⟨q4, 0, none⟩) N 4 1 ((dropsPad N g).map oV) :: .row (some ⟨q6, 0, none⟩) N 5 1 ((bytesPad N g).map uV) :: H) ?_ ?_
    · by_cases hp : x.p = []
      · have e : g.put x.p = g := by rw [hp, put_nil]
        rw [e]
        (try (refine st_E11_1 ?_; intros))
        exact WQ.join ⟨rfl, rfl, rfl, rfl⟩ zsb zpk
      · have hpn : g.cur.p.length ≤ 100000000000 := by
          have := cur_len hok i
          rw [← hgr] at this
          omega
        (try (refine st_E11_1 ?_; intros))
        rw [u6]
        exact WQ.join ⟨rfl, rfl, rfl, rfl⟩ zsb zpk
    rintro _ _ _ _ ⟨rfl, rfl, rfl, rfl⟩
    have v1 : dropsPad N (g.put x.p) = dropsPad N g ∧ bytesPad N (g.put x.p) = bytesPad N g := by
      unfold dropsPad bytesPad Gs.put; exact ⟨rfl, rfl⟩
    rw [← v1.1, ← v1.2]
    (try (refine st_E11_1 ?_; intros))
    refine WC.loopH [(11, .int .i64 ((0) : Int)), (6, .pointer (some ⟨b, 0, none⟩)), (7, .int .i64 ((atOf g) : Int)), (8, .int .i64 (gapAt g : Int)), (9, .int .i64 (i : Int)), (10, .pointer (some ⟨bx, 0, none⟩)), (2, .pointer (some ⟨r0, 0, none⟩)), (0, .slice (some a0) l.length cap)] ?_ ?_ (fun j r ds m' H' => ∃ (q : Nat) (p : Nat) (gd : Gs), j = x.d.length - q ∧ r = [(11, .int .i64 (q : Int)), (6, .pointer (some ⟨b, 0, none⟩)), (7, .int .i64 (p : Int)), (8, .int .i64 (gapAt g : Int)), (9, .int .i64 (i : Int)), (10, .pointer (some ⟨bx, 0, none⟩)), (2, .pointer (some ⟨r0, 0, none⟩)), (0, .slice (some a0) l.length cap)] ∧ ds = [] ∧ m = m' ∧ H' = .blk bx (.cells [.int .i64 x.k, str x.d, str x.p].toArray 55 (0, 0)) :: .blk b (.cells [.slice (some ⟨q2, 0, none⟩) (N + 1) (N + 1), .slice (some ⟨q4, 0, none⟩) N N, .slice (some ⟨q6, 0, none⟩) N N].toArray 76 (0, 0)) :: .blk r0 (.cells [.slice none 0 0, .slice none 0 0, .slice none 0 0].toArray 76 (0, 0)) :: .row (some ⟨q2, 0, none⟩) (N + 1) 9 1 ((putsPad N gd).map sV) :: .row (some ⟨q4, 0, none⟩) N 4 1 ((dropsPad N gd).map oV) :: .row (some ⟨q6, 0, none⟩) N 5 1 ((bytesPad N gd).map uV) :: H ∧ (q ≤ x.d.length) ∧ (gd = (g.put x.p).drops (x.d.take q)) ∧ (p = atOf gd) ∧ (p = atOf g + q)) (x.d.length - (0)) ⟨0, atOf g, g.put x.p, rfl, rfl, rfl, rfl, rfl, by omega, by rw [List.take_zero, drops_nil], by rw [u3], by omega⟩ ?_
    · (repeat (first | exact Env.Sub.nil | refine Env.Sub.cons rfl ?_))
    · exact zpk
    rintro j r ds m' H' ⟨q, p, gd, rfl, rfl, rfl, rfl, rfl, hj, hgd, hp0, hpj⟩
    subst hp0
    by_cases hjl : q < x.d.length
    · obtain ⟨k1, k2, k3, k4, k5⟩ := byte_drops (N := N) (g := gd) (b := x.d[q]) (by omega)
      obtain ⟨z1, z2, z3⟩ := pads_len (N := N) (g := gd) (by omega)
      have k6 : ((dropsPad N gd).map oV).set (atOf gd) [.bool true] = (dropsPad N (gd.byte x.d[q])).map oV := by rw [k1, List.map_set]; rfl
      have k7 : ((bytesPad N gd).map uV).set (atOf gd) [.int .u8 (gb x.d q : Int)] = (bytesPad N (gd.byte x.d[q])).map uV := by rw [k2, List.map_set, gb_at hjl]; rfl
      (try (refine st_E11_1 ?_; intros))
      rw [k6, k7, ← k3]
      refine WQ.next (x.d.length - (q + 1)) ⟨q + 1, atOf gd + 1, gd.byte x.d[q], rfl, rfl, rfl, rfl, rfl, ?_, ?_, ?_, ?_⟩ (by omega) zsb zpk
      · omega
      · rw [hgd, List.take_succ_eq_append_getElem hjl, drops_snoc]
      · rw [k4]
      · omega
    · have hjx : q = x.d.length := by omega
      rw [hjx, List.take_length] at hgd
      obtain ⟨w1, w2⟩ := drops_at (g.put x.p) x.d
      rw [← hgd, u3] at w1
      rw [← hgd, u4] at w2
      by_cases hk : 0 < x.k
      · rw [if_pos hk, ← hgd] at hg
        obtain ⟨k1, k2, k3, k4, k5⟩ := keep_pads (N := N) (g := gd) (n := x.k.toNat) (by omega) (by omega)
        rw [← k1, ← k2, ← k3]
        have e : (atOf gd : Int) + x.k = ((atOf gd + x.k.toNat : Nat) : Int) := by omega
        (try (refine st_E11_1 ?_; intros))
        rw [e]
        refine WQ.next (l.length - (i + 1)) ⟨i + 1, gd.keeps x.k.toNat, atOf gd + x.k.toNat, atOf gd + x.k.toNat, rfl, rfl, rfl, rfl, rfl, ?_, ?_, ?_, ?_, ?_, ?_⟩ (by omega) zsb zpk
        · omega
        · exact k4.symm
        · exact k5.symm
        · exact hg
        · omega
        · rw [gaps_next htk, ← hgr, step_parts hxok, if_pos hk, ← hgd]
      · rw [if_neg hk, ← hgd] at hg
        (try (refine st_E11_1 ?_; intros))
        refine WQ.next (l.length - (i + 1)) ⟨i + 1, gd, gapAt g, atOf gd, rfl, rfl, rfl, rfl, rfl, ?_, ?_, ?_, ?_, ?_, ?_⟩ (by omega) zsb zpk
        · omega
        · exact w2.symm
        · rfl
        · exact hg
        · omega
        · rw [gaps_next htk, ← hgr, step_parts hxok, if_neg hk, ← hgd]
  · obtain rfl : i = l.length := by omega
    rw [List.drop_length, List.foldl_nil] at hg
    rw [List.drop_length] at hN
    obtain ⟨f1, f2, f3⟩ := pads_full (N := N) (g := g) (by rw [← hN]; rfl)
    rw [f1] at p2; rw [f2] at p3; rw [f3] at p1
    rw [f1, f2, f3]
    subst hg
    have p1' : N + 1 = (putsOf (gapsOf l)).length := by rw [← p1, List.length_map]
    have p2' : N = (dropsOf (gapsOf l)).length := by rw [← p2, List.length_map]
    have p3' : N = (bytesOf (gapsOf l)).length := by rw [← p3, List.length_map]
    (try (refine st_E11_1 ?_; intros))
    exact q_fin0 (H0 := .row (some ⟨q2, 0, none⟩) (N + 1) 9 1 ((putsOf (gapsOf l)).map sV) :: .row (some ⟨q4, 0, none⟩) N 4 1 ((dropsOf (gapsOf l)).map oV) :: .row (some ⟨q6, 0, none⟩) N 5 1 ((bytesOf (gapsOf l)).map uV) :: H) ⟨rfl, q2, q4, q6, by rw [← p1', ← p2', ← p3'], by rw [← p1', ← p2', ← p3']⟩ (hd := zpk)
end Go.Proofs.YtelgegefmjlimaaDoor

/-
  The walk of the law's comparison of changes. No condition.
-/
namespace Go.Proofs.YtelgegefmjlimaaDoor
open Go Go.Eng
set_option maxRecDepth 100000
set_option maxHeartbeats 4000000
set_option linter.all false
attribute [local irreducible] WL WC WQ QFun QLoop Does Q1 QRound QAssign Go.Addr.add
theorem same_any {pa pb : Option Addr} {ca cb : Nat} {l : List Stp} (hl : l.length ≤ 1000000000) (w0 : World) (m : Mem) (H : SHeap) (hra : RowR w0 m H 3 pa (l.map Stp.cs)) (hrb : RowR w0 m H 3 pb (l.map Stp.cs)) :
    Does Tryd.prog 9 #[.slice pa l.length ca, .slice pb l.length cb] w0 m H (Gives (.bool true) m H) := by
  refine Does.of_body (args := [.slice pa l.length ca, .slice pb l.length cb]) Tryd.func9 rfl Tryd.ntmps9 rfl ?_
  have hln : (l.map Stp.cs).length = l.length := by simp
  (try (refine st ?_; intros))
  refine WC.loopH [(5, .int .i64 ((0) : Int)), (0, .slice pa l.length ca), (1, .slice pb l.length cb)] ?_ ?_ (fun j r ds m' H' => ∃ i, j = l.length - i ∧ r = [(5, .int .i64 (i : Int)), (0, .slice pa l.length ca), (1, .slice pb l.length cb)] ∧ ds = [] ∧ m = m' ∧ H' = H ∧ (i ≤ l.length) ∧ (RowR w0 m H 3 pa (l.map Stp.cs)) ∧ (RowR w0 m H 3 pb (l.map Stp.cs))) (l.length - (0)) ⟨0, rfl, rfl, rfl, rfl, rfl, by omega, hra, hrb⟩ ?_
  · (repeat (first | exact Env.Sub.nil | refine Env.Sub.cons rfl ?_))
  · exact zpk
  rintro j r ds m' H' ⟨i, rfl, rfl, rfl, rfl, rfl, hi, hra, hrb⟩
  generalize H' = H at *
  by_cases hlt : i < l.length
  · obtain ⟨x, hx, hget, htk, hmem, hdr⟩ := at_idx (f := Stp.cs) hlt
    refine WC.rSome hra (by omega) ?_
    rintro a0 rfl
    refine WC.rSome hrb (by omega) ?_
    rintro b0 rfl
    have h1 : x.d = x.d := rfl
    have h2 : x.p = x.p := rfl
    (try (refine st ?_; intros))
    refine WQ.next (l.length - (i + 1)) ⟨i + 1, rfl, rfl, rfl, rfl, rfl, ?_, ?_, ?_⟩ (by omega) zsb zpk
    · omega
    · assumption
    · assumption
  · obtain rfl : i = l.length := by omega
    (try (refine st ?_; intros))
    exact q_fin0 (H0 := H) (Gives.mk rfl) (hd := zpk)
end Go.Proofs.YtelgegefmjlimaaDoor

/-
  Plain facts on changes: what a change makes of a text. No condition.
-/
namespace Go.Eng
open Go
/-- what a change makes of a text; none: they are apart -/
def applyA : List UInt8 → List Atm → Option (List UInt8)
  | _, [] => some []
  | s, .p b :: l => (applyA s l).map (b :: ·)
  | c :: s, .k :: l => (applyA s l).map (c :: ·)
  | c :: s, .d b :: l => if c = b then applyA s l else none
  | [], .k :: _ => none
  | [], .d _ :: _ => none
theorem applyA_p (s : List UInt8) (b : UInt8) (l : List Atm) : applyA s (.p b :: l) = (applyA s l).map (b :: ·) := by cases s <;> rfl
theorem applyA_nil (s : List UInt8) : applyA s [] = some [] := by cases s <;> rfl
theorem applyA_ps (s : List UInt8) : ∀ (ds : List UInt8) (l : List Atm), applyA s (ds.map .p ++ l) = (applyA s l).map (ds ++ ·)
  | [], l => by simp
  | b :: ds, l => by rw [List.map_cons, List.cons_append, applyA_p, applyA_ps s ds l, Option.map_map]; rfl
theorem applyA_ks : ∀ (n : Nat) (s : List UInt8) (l : List Atm), n ≤ s.length → applyA s (List.replicate n .k ++ l) = (applyA (s.drop n) l).map (s.take n ++ ·)
  | 0, s, l, _ => by simp
  | n + 1, [], l, h => by simp at h
  | n + 1, c :: s, l, h => by
    rw [List.replicate_succ, List.cons_append, applyA, applyA_ks n s l (by simpa using h), Option.map_map]; rfl
theorem applyA_ds : ∀ (ds s : List UInt8) (l : List Atm), ds.length ≤ s.length → applyA s (ds.map .d ++ l) = if s.take ds.length = ds then applyA (s.drop ds.length) l else none
  | [], s, l, _ => by simp
  | b :: ds, [], l, h => by simp at h
  | b :: ds, c :: s, l, h => by
    rw [List.map_cons, List.cons_append, applyA, applyA_ds ds s l (by simpa using h)]
    by_cases hb : c = b
    · subst hb; simp
    · simp [hb]
end Go.Eng

/-
  The walks of package edit, tenth part: what a change makes of a text; the law's example. No condition.
-/
namespace Go.Eng
open Go Go.RowKit
theorem RowR.blk {w0 : World} {m : Mem} {H : SHeap} {b sz : Nat} {T : TypeId} {fz : Nat × Nat} {es : List (List Value)} {L : List Value} (hm : Item.blk b (.cells L.toArray T fz) ∈ H) (h1 : ∀ e ∈ es, e.length = sz) (hL : es.flatten = L) : RowR w0 m H sz (.some ⟨b, 0, .none⟩) es := by
  subst hL
  intro w hs
  refine ⟨h1, fun j v hj => ?_⟩
  rw [add_none]
  exact Cell.blk hm (by simpa using hj) w hs
def bV (b : UInt8) : List Value := [.int .u8 (b.toNat : Int)]
def applyV (s : List UInt8) (l : List Stp) : Value := match sizesOf l with
  | none => .tuple #[str [], .int .i64 2]
  | some (f, _) => if f ≠ s.length then .tuple #[str [], .int .i64 5] else match applyA s (atomsOf l) with
    | none => .tuple #[str [], .int .i64 270]
    | some o => .tuple #[str o, .int .i64 0]
end Go.Eng
namespace Go.Proofs.YtelgegefmjlimaaDoor
open Go Go.Eng
set_option maxRecDepth 100000
set_option maxHeartbeats 4000000
set_option linter.all false
attribute [local irreducible] WL WC WQ QFun QLoop Does Q1 QRound QAssign Go.Addr.add
attribute [local irreducible] applyA sizesF sizesOf
theorem sq_E10_1 {G : Prop} (h : G := by (repeat (first | (refine sp ?_; (repeat intro zzc)) | (refine iF 32 rfl ?_; refine w_callG Tryd.func32 ?_ (hs := sizes_any (by assumption) _ _ _ (by assumption))))); exact WQ.q1 rfl) : G := h
theorem st_E10_1 {G G' : Prop} (next : G') (h : Bx G' → G := by intro zzn; (first | ((refine st ?_; (repeat intro zzc)); (try ((first | (refine iF 32 rfl ?_; refine w_callG Tryd.func32 ?_ (hs := sizes_any (by assumption) _ _ _ (by assumption))) | ((refine iDraw ?_; (first | refine WC.drawAll rfl (by decide +kernel) ?_ | refine WC.draw 1 rfl (by decide +kernel) ?_ | refine WC.draw 2 rfl (by decide +kernel) ?_ | refine WC.draw 3 rfl (by decide +kernel) ?_ | refine WC.draw 4 rfl (by decide +kernel) ?_ | refine WC.draw 5 rfl (by decide +kernel) ?_ | refine WC.draw 6 rfl (by decide +kernel) ?_ | refine WC.draw 7 rfl (by decide +kernel) ?_ | refine WC.draw 8 rfl (by decide +kernel) ?_ | refine WC.draw 9 rfl (by decide +kernel) ?_ | refine WC.draw 10 rfl (by decide +kernel) ?_ | refine WC.draw 11 rfl (by decide +kernel) ?_ | refine WC.draw 12 rfl (by decide +kernel) ?_ | refine WC.draw 13 rfl (by decide +kernel) ?_ | refine WC.draw 14 rfl (by decide +kernel) ?_ | refine WC.draw 15 rfl (by decide +kernel) ?_ | refine WC.draw 16 rfl (by decide +kernel) ?_ | refine WC.draw 17 rfl (by decide +kernel) ?_ | refine WC.draw 18 rfl (by decide +kernel) ?_ | refine WC.draw 19 rfl (by decide +kernel) ?_ | refine WC.draw 20 rfl (by decide +kernel) ?_ | refine WC.draw 21 rfl (by decide +kernel) ?_ | refine WC.draw 22 rfl (by decide +kernel) ?_ | refine WC.draw 23 rfl (by decide +kernel) ?_ | refine WC.draw 24 rfl (by decide +kernel) ?_)); (repeat (refine WD.cons rfl (fun c h => by cases h) sq_E10_1 ?_)); refine WD.nil ?_)); (try (refine st ?_; (repeat intro zzc)))))) | ((first | (refine iF 32 rfl ?_; refine w_callG Tryd.func32 ?_ (hs := sizes_any (by assumption) _ _ _ (by assumption))) | ((refine iDraw ?_; (first | refine WC.drawAll rfl (by decide +kernel) ?_ | refine WC.draw 1 rfl (by decide +kernel) ?_ | refine WC.draw 2 rfl (by decide +kernel) ?_ | refine WC.draw 3 rfl (by decide +kernel) ?_ | refine WC.draw 4 rfl (by decide +kernel) ?_ | refine WC.draw 5 rfl (by decide +kernel) ?_ | refine WC.draw 6 rfl (by decide +kernel) ?_ | refine WC.draw 7 rfl (by decide +kernel) ?_ | refine WC.draw 8 rfl (by decide +kernel) ?_ | refine WC.draw 9 rfl (by decide +kernel) ?_ | refine WC.draw 10 rfl (by decide +kernel) ?_ | refine WC.draw 11 rfl (by decide +kernel) ?_ | refine WC.draw 12 rfl (by decide +kernel) ?_ | refine WC.draw 13 rfl (by decide +kernel) ?_ | refine WC.draw 14 rfl (by decide +kernel) ?_ | refine WC.draw 15 rfl (by decide +kernel) ?_ | refine WC.draw 16 rfl (by decide +kernel) ?_ | refine WC.draw 17 rfl (by decide +kernel) ?_ | refine WC.draw 18 rfl (by decide +kernel) ?_ | refine WC.draw 19 rfl (by decide +kernel) ?_ | refine WC.draw 20 rfl (by decide +kernel) ?_ | refine WC.draw 21 rfl (by decide +kernel) ?_ | refine WC.draw 22 rfl (by decide +kernel) ?_ | refine WC.draw 23 rfl (by decide +kernel) ?_ | refine WC.draw 24 rfl (by decide +kernel) ?_)); (repeat (refine WD.cons rfl (fun c h => by cases h) sq_E10_1 ?_)); refine WD.nil ?_)); (try (refine st ?_; (repeat intro zzc))))); (repeat ((first | (refine iF 32 rfl ?_; refine w_callG Tryd.func32 ?_ (hs := sizes_any (by assumption) _ _ _ (by assumption))) | ((refine iDraw ?_; (first | refine WC.drawAll rfl (by decide +kernel) ?_ | refine WC.draw 1 rfl (by decide +kernel) ?_ | refine WC.draw 2 rfl (by decide +kernel) ?_ | refine WC.draw 3 rfl (by decide +kernel) ?_ | refine WC.draw 4 rfl (by decide +kernel) ?_ | refine WC.draw 5 rfl (by decide +kernel) ?_ | refine WC.draw 6 rfl (by decide +kernel) ?_ | refine WC.draw 7 rfl (by decide +kernel) ?_ | refine WC.draw 8 rfl (by decide +kernel) ?_ | refine WC.draw 9 rfl (by decide +kernel) ?_ | refine WC.draw 10 rfl (by decide +kernel) ?_ | refine WC.draw 11 rfl (by decide +kernel) ?_ | refine WC.draw 12 rfl (by decide +kernel) ?_ | refine WC.draw 13 rfl (by decide +kernel) ?_ | refine WC.draw 14 rfl (by decide +kernel) ?_ | refine WC.draw 15 rfl (by decide +kernel) ?_ | refine WC.draw 16 rfl (by decide +kernel) ?_ | refine WC.draw 17 rfl (by decide +kernel) ?_ | refine WC.draw 18 rfl (by decide +kernel) ?_ | refine WC.draw 19 rfl (by decide +kernel) ?_ | refine WC.draw 20 rfl (by decide +kernel) ?_ | refine WC.draw 21 rfl (by decide +kernel) ?_ | refine WC.draw 22 rfl (by decide +kernel) ?_ | refine WC.draw 23 rfl (by decide +kernel) ?_ | refine WC.draw 24 rfl (by decide +kernel) ?_)); (repeat (refine WD.cons rfl (fun c h => by cases h) sq_E10_1 ?_)); refine WD.nil ?_)); (try (refine st ?_; (repeat intro zzc))))); (repeat revert zzc); exact zzn.out) : G := h ⟨next⟩
theorem apply_any {a : Option Addr} {cap : Nat} {l : List Stp} {s : List UInt8} (hf : Fit l) (hsl : s.length ≤ 1000000000) (w0 : World) (m : Mem) (H : SHeap) (hr : RowR w0 m H 3 a (l.map Stp.cs)) :
    Does Tryd.prog 22 #[str s, .slice a l.length cap] w0 m H (Gives (applyV s l) m H) := by
  refine Does.of_body (args := [str s, .slice a l.length cap]) Tryd.func22 rfl Tryd.ntmps22 rfl ?_
  have hln : (l.map Stp.cs).length = l.length := by simp
  have hlen := hf.len
  cases hs : sizesOf l with
  | none =>
    have e : applyV s l = .tuple #[str [], .int .i64 2] := by simp only [applyV, hs]
    have e2 : szP (sizesOf l) = .tuple #[.int .i64 0, .int .i64 0, .int .i64 2] := by rw [hs]; rfl
    rw [e]
    (try (refine st_E10_1 ?_; intros))
    rw [e2]
    (try (refine st_E10_1 ?_; intros))
    exact q_fin0 (H0 := H) (Gives.mk rfl) (hd := zpk)
  | some ft =>
    obtain ⟨f, t⟩ := ft
    have e2 : szP (sizesOf l) = .tuple #[.int .i64 f, .int .i64 t, .int .i64 0] := by rw [hs]; rfl
    obtain ⟨hok, hal, hpl, hfr, _, g1, g2, _, _⟩ := sized hs
    by_cases hfs : f = s.length
    · (try (refine st_E10_1 ?_; intros))
      rw [e2]
      (try (refine st_E10_1 ?_; intros))
      refine WC.newRow (T := 5) (sz := 1) ?_
      refine WC.loopH [(29, .int .i64 ((0) : Int)), (28, .int .i64 (l.length : Int)), (27, .slice a l.length cap), (0, str (s)), (9, .slice (none) (0) (0))] ?_ ?_ (fun j r ds m' H' => ∃ i S a9 c9 n9 O, j = l.length - i ∧ r = [(29, .int .i64 (i : Int)), (28, .int .i64 (l.length : Int)), (27, .slice a l.length cap), (0, str S), (9, .slice a9 n9 c9)] ∧ ds = [] ∧ m = m' ∧ H' = .row a9 c9 5 1 (O.map bV) :: H ∧ (i ≤ l.length) ∧ (n9 = O.length) ∧ (O.length ≤ (atomsOf (l.take i)).length + s.length - S.length) ∧ (S.length ≤ s.length) ∧ (fromA (atomsOf (l.drop i)) = S.length) ∧ ((applyA S (atomsOf (l.drop i))).map (O ++ ·) = applyA s (atomsOf l))) (l.length - (0)) ⟨0, s, none, 0, 0, ([] : List UInt8), rfl, rfl, rfl, rfl, rfl, by omega, rfl, by simp, by omega, by rw [List.drop_zero]; omega, by simp⟩ ?_
      · (repeat (first | exact Env.Sub.nil | refine Env.Sub.cons rfl ?_))
      · exact zpk
      rintro j r ds m' H' ⟨i, S, a9, c9, n9, O, rfl, rfl, rfl, rfl, rfl, hi, hn9, hO, hSl, hSf, hR⟩
      have hOl : (O.map bV).length = O.length := by simp
      have htl : (atomsOf (l.take i)).length ≤ (atomsOf l).length := by
        have e : atomsOf l = atomsOf (l.take i) ++ atomsOf (l.drop i) := by rw [← atoms_append, List.take_append_drop]
        rw [e]; simp
      subst hn9
      by_cases hlt : i < l.length
      · obtain ⟨x, hx, hget, htk, hmem, hdr⟩ := at_idx (f := Stp.cs) hlt
        have hxl : (atomsOf (l.take (i + 1))).length = (atomsOf (l.take i)).length + x.atoms.length := by rw [htk, atoms_append, atoms_one, List.length_append]
        have hxm : (atomsOf (l.take (i + 1))).length ≤ (atomsOf l).length := by
          have e : atomsOf l = atomsOf (l.take (i + 1)) ++ atomsOf (l.drop (i + 1)) := by rw [← atoms_append, List.take_append_drop]
          rw [e, List.length_append]; omega
        rw [atoms_len] at hxl
        rw [hdr, atoms_cons] at hR hSf
        rw [fromA_append, from_step] at hSf
        have hr1 := hr.more (i := .row a9 c9 5 1 (O.map bV))
        have hxok := hok x hmem
        refine WC.rSome hr1 (by omega) ?_
        rintro a0 rfl
        rcases hxok with ⟨h1, h2, h3⟩ | ⟨h1, h2, h3⟩ | ⟨h1, h2, h3⟩
        · have h2' : x.d.length = 0 := by rw [h2]; rfl
          have h3' : x.p.length = 0 := by rw [h3]; rfl
          have ea : x.atoms = List.replicate x.k.toNat .k := by simp [Stp.atoms, h2, h3]
          rw [ea, applyA_ks x.k.toNat S _ (by omega), Option.map_map] at hR
          have hmin : (S.take x.k.toNat).length = x.k.toNat := by simp; omega
          have hed : (S.drop x.k.toNat).length = S.length - x.k.toNat := by simp
          (refine st_E10_1 ?_; intros; rename_i bx a8 c8)
          rw [hOl, hmin]
          have em : O.map bV ++ (S.take x.k.toNat).map (fun b => [Value.int .u8 (b.toNat : Int)]) = (O ++ S.take x.k.toNat).map bV := by rw [List.map_append]; rfl
          rw [em]
          refine WQ.next (l.length - (i + 1)) ⟨i + 1, S.drop x.k.toNat, a8, c8, O.length + x.k.toNat, O ++ S.take x.k.toNat, rfl, rfl, rfl, rfl, rfl, ?_, ?_, ?_, ?_, ?_, ?_⟩ (by omega) zsb zpk
          · omega
          · rw [List.length_append, hmin]
          · rw [List.length_append, hmin]; omega
          · omega
          · omega
          · rw [← hR]; congr 1; funext q; simp
        · have h3' : x.p.length = 0 := by rw [h3]; rfl
          have ea : x.atoms = x.d.map .d := by simp [Stp.atoms, h1, h3]
          rw [ea, applyA_ds x.d S _ (by omega)] at hR
          have hed : (S.drop x.d.length).length = S.length - x.d.length := by simp
          by_cases h4 : S.take x.d.length = x.d
          · rw [if_pos h4] at hR
            (try (refine st_E10_1 ?_; intros))
            refine WQ.next (l.length - (i + 1)) ⟨i + 1, S.drop x.d.length, a9, c9, O.length, O, rfl, rfl, rfl, rfl, rfl, ?_, ?_, ?_, ?_, ?_, ?_⟩ (by omega) zsb zpk
            · omega
            · rfl
            · omega
            · omega
            · omega
            · exact hR
          · rw [if_neg h4] at hR
            have e : applyV s l = .tuple #[str [], .int .i64 270] := by simp only [applyV, hs, hfs, ne_eq, not_true, if_false, ← hR, Option.map_none]
            rw [e]
            (try (refine st_E10_1 ?_; intros))
            exact q_fin0 (H0 := H) (Gives.mk rfl) (hd := zpk)
        · have h2' : x.d.length = 0 := by rw [h2]; rfl
          have ea : x.atoms = x.p.map .p := by simp [Stp.atoms, h1, h2]
          rw [ea, applyA_ps S x.p, Option.map_map] at hR
          (refine st_E10_1 ?_; intros; rename_i bx a8 c8)
          rw [hOl]
          have em : O.map bV ++ x.p.map (fun b => [Value.int .u8 (b.toNat : Int)]) = (O ++ x.p).map bV := by rw [List.map_append]; rfl
          rw [em]
          refine WQ.next (l.length - (i + 1)) ⟨i + 1, S, a8, c8, O.length + x.p.length, O ++ x.p, rfl, rfl, rfl, rfl, rfl, ?_, ?_, ?_, ?_, ?_, ?_⟩ (by omega) zsb zpk
          · omega
          · rw [List.length_append]
          · rw [List.length_append]; omega
          · omega
          · omega
          · rw [← hR]; congr 1; funext q; simp
      · obtain rfl : i = l.length := by omega
        rw [List.drop_length] at hR
        have e : applyV s l = .tuple #[str O, .int .i64 0] := by
          have : some O = applyA s (atomsOf l) := by rw [← hR, show atomsOf [] = [] from rfl, applyA_nil]; simp
          simp only [applyV, hs, hfs, ne_eq, not_true, if_false, ← this]
        rw [e]
        (try (refine st_E10_1 ?_; intros))
        refine WL.rowStr (s := O) rfl rfl zhs rfl rfl rfl rfl rfl ?_
        (try (refine st_E10_1 ?_; intros))
        exact q_fin0 (H0 := H) (Gives.mk rfl) (hd := zpk)
    · have e : applyV s l = .tuple #[str [], .int .i64 5] := by simp [applyV, hs, hfs]
      rw [e]
      (try (refine st_E10_1 ?_; intros))
      rw [e2]
      (try (refine st_E10_1 ?_; intros))
      exact q_fin0 (H0 := H) (Gives.mk rfl) (hd := zpk)
theorem sq_E10_2 {G : Prop} (h : G := by (repeat (first | (refine sp ?_; (repeat intro zzc)))); exact WQ.q1 rfl) : G := h
theorem st_E10_2 {G G' : Prop} (next : G') (h : Bx G' → G := by intro zzn; (first | ((refine st ?_; (repeat intro zzc)); (try ((first | ((refine iDraw ?_; (first | refine WC.drawAll rfl (by decide +kernel) ?_ | refine WC.draw 1 rfl (by decide +kernel) ?_ | refine WC.draw 2 rfl (by decide +kernel) ?_ | refine WC.draw 3 rfl (by decide +kernel) ?_ | refine WC.draw 4 rfl (by decide +kernel) ?_ | refine WC.draw 5 rfl (by decide +kernel) ?_ | refine WC.draw 6 rfl (by decide +kernel) ?_ | refine WC.draw 7 rfl (by decide +kernel) ?_ | refine WC.draw 8 rfl (by decide +kernel) ?_ | refine WC.draw 9 rfl (by decide +kernel) ?_ | refine WC.draw 10 rfl (by decide +kernel) ?_ | refine WC.draw 11 rfl (by decide +kernel) ?_ | refine WC.draw 12 rfl (by decide +kernel) ?_ | refine WC.draw 13 rfl (by decide +kernel) ?_ | refine WC.draw 14 rfl (by decide +kernel) ?_ | refine WC.draw 15 rfl (by decide +kernel) ?_ | refine WC.draw 16 rfl (by decide +kernel) ?_ | refine WC.draw 17 rfl (by decide +kernel) ?_ | refine WC.draw 18 rfl (by decide +kernel) ?_ | refine WC.draw 19 rfl (by decide +kernel) ?_ | refine WC.draw 20 rfl (by decide +kernel) ?_ | refine WC.draw 21 rfl (by decide +kernel) ?_ | refine WC.draw 22 rfl (by decide +kernel) ?_ | refine WC.draw 23 rfl (by decide +kernel) ?_ | refine WC.draw 24 rfl (by decide +kernel) ?_)); (repeat (refine WD.cons rfl (fun c h => by cases h) sq_E10_2 ?_)); refine WD.nil ?_)); (try (refine st ?_; (repeat intro zzc)))))) | ((first | ((refine iDraw ?_; (first | refine WC.drawAll rfl (by decide +kernel) ?_ | refine WC.draw 1 rfl (by decide +kernel) ?_ | refine WC.draw 2 rfl (by decide +kernel) ?_ | refine WC.draw 3 rfl (by decide +kernel) ?_ | refine WC.draw 4 rfl (by decide +kernel) ?_ | refine WC.draw 5 rfl (by decide +kernel) ?_ | refine WC.draw 6 rfl (by decide +kernel) ?_ | refine WC.draw 7 rfl (by decide +kernel) ?_ | refine WC.draw 8 rfl (by decide +kernel) ?_ | refine WC.draw 9 rfl (by decide +kernel) ?_ | refine WC.draw 10 rfl (by decide +kernel) ?_ | refine WC.draw 11 rfl (by decide +kernel) ?_ | refine WC.draw 12 rfl (by decide +kernel) ?_ | refine WC.draw 13 rfl (by decide +kernel) ?_ | refine WC.draw 14 rfl (by decide +kernel) ?_ | refine WC.draw 15 rfl (by decide +kernel) ?_ | refine WC.draw 16 rfl (by decide +kernel) ?_ | refine WC.draw 17 rfl (by decide +kernel) ?_ | refine WC.draw 18 rfl (by decide +kernel) ?_ | refine WC.draw 19 rfl (by decide +kernel) ?_ | refine WC.draw 20 rfl (by decide +kernel) ?_ | refine WC.draw 21 rfl (by decide +kernel) ?_ | refine WC.draw 22 rfl (by decide +kernel) ?_ | refine WC.draw 23 rfl (by decide +kernel) ?_ | refine WC.draw 24 rfl (by decide +kernel) ?_)); (repeat (refine WD.cons rfl (fun c h => by cases h) sq_E10_2 ?_)); refine WD.nil ?_)); (try (refine st ?_; (repeat intro zzc))))); (repeat ((first | ((refine iDraw ?_; (first | refine WC.drawAll rfl (by decide +kernel) ?_ | refine WC.draw 1 rfl (by decide +kernel) ?_ | refine WC.draw 2 rfl (by decide +kernel) ?_ | refine WC.draw 3 rfl (by decide +kernel) ?_ | refine WC.draw 4 rfl (by decide +kernel) ?_ | refine WC.draw 5 rfl (by decide +kernel) ?_ | refine WC.draw 6 rfl (by decide +kernel) ?_ | refine WC.draw 7 rfl (by decide +kernel) ?_ | refine WC.draw 8 rfl (by decide +kernel) ?_ | refine WC.draw 9 rfl (by decide +kernel) ?_ | refine WC.draw 10 rfl (by decide +kernel) ?_ | refine WC.draw 11 rfl (by decide +kernel) ?_ | refine WC.draw 12 rfl (by decide +kernel) ?_ | refine WC.draw 13 rfl (by decide +kernel) ?_ | refine WC.draw 14 rfl (by decide +kernel) ?_ | refine WC.draw 15 rfl (by decide +kernel) ?_ | refine WC.draw 16 rfl (by decide +kernel) ?_ | refine WC.draw 17 rfl (by decide +kernel) ?_ | refine WC.draw 18 rfl (by decide +kernel) ?_ | refine WC.draw 19 rfl (by decide +kernel) ?_ | refine WC.draw 20 rfl (by decide +kernel) ?_ | refine WC.draw 21 rfl (by decide +kernel) ?_ | refine WC.draw 22 rfl (by decide +kernel) ?_ | refine WC.draw 23 rfl (by decide +kernel) ?_ | refine WC.draw 24 rfl (by decide +kernel) ?_)); (repeat (refine WD.cons rfl (fun c h => by cases h) sq_E10_2 ?_)); refine WD.nil ?_)); (try (refine st ?_; (repeat intro zzc))))); (repeat revert zzc); exact zzn.out) : G := h ⟨next⟩
theorem live_val : applyV [97, 98] [⟨1, [], []⟩, ⟨0, [98], []⟩, ⟨0, [], [99]⟩] = .tuple #[str [97, 99], .int .i64 0] := by
  have h1 : sizesOf [⟨1, [], []⟩, ⟨0, [98], []⟩, ⟨0, [], [99]⟩] = some (2, 2) := by decide +kernel
  have h2 : applyA [97, 98] (atomsOf [⟨1, [], []⟩, ⟨0, [98], []⟩, ⟨0, [], [99]⟩]) = some [97, 99] := by decide +kernel
  simp only [applyV, h1, h2]
  rfl
theorem live_any (w0 : World) (m : Mem) (H : SHeap) : Does Tryd.prog 6 #[] w0 m H (Gives (.bool true) m H) := by
  refine Does.of_body (args := []) Tryd.func6 rfl Tryd.ntmps6 rfl ?_
  (refine st_E10_2 ?_; intros; rename_i b)
  refine w_callF Tryd.func22 ?_ (hs := apply_any (s := [97, 98]) (l := [⟨1, [], []⟩, ⟨0, [98], []⟩, ⟨0, [], [99]⟩]) ⟨by decide, by decide, by decide, by decide⟩ (by decide) _ _ _ (RowR.blk zhs (by decide) rfl))
  rintro v m1 H1 ⟨rfl, rfl, rfl⟩
  rw [live_val]
  (try (refine st_E10_2 ?_; intros))
  (refine q_fin0 ?_)
  exact Gives.mk (by rw [dcd_true rfl])
end Go.Proofs.YtelgegefmjlimaaDoor

/-
  Plain facts on changes: parts of a step. No condition.
-/
namespace Go.Eng
open Go
def takeS (s : Stp) (n : Nat) : Stp := if 0 < s.k then ⟨n, [], []⟩ else if s.d ≠ [] then ⟨0, s.d.take n, []⟩ else ⟨0, [], s.p.take n⟩
def dropS (s : Stp) (n : Nat) : Stp := if 0 < s.k then ⟨s.k - n, [], []⟩ else if s.d ≠ [] then ⟨0, s.d.drop n, []⟩ else ⟨0, [], s.p.drop n⟩
def restS (s : Stp) (n : Nat) (X : List Stp) : List Stp := if n = s.atoms.length then X else dropS s n :: X
end Go.Eng

/-
  Plain facts on changes: composing them by parts of steps. No condition.
-/
namespace Go.Eng
open Go
/-- what two changes come to, one behind the other -/
def compP (a b : List Stp) : Int ⊕ List Stp := match sizesOf a, sizesOf b with
  | some (_, mid), some (from_, _) => if mid ≠ from_ then .inl 5 else match compA (nfOf (gapsOf a)) (nfOf (gapsOf b)) with
    | none => .inl 270
    | some o => .inr (Bld.start.run o).close.l
  | _, _ => .inl 2
end Go.Eng

/-
  Plain facts on changes: composing, with the builder at hand. No condition.
-/
namespace Go.Eng
open Go
/-- the answer, from here on -/
def cmpT (B : Bld) (xs ys : List Atm) : Option (List Stp) := (compA xs ys).map fun o => (B.run o).close.l
theorem stp_bounds {s : Stp} (h : stpOk s) : 0 ≤ s.k ∧ s.k ≤ s.atoms.length ∧ s.d.length ≤ s.atoms.length ∧ s.p.length ≤ s.atoms.length := by
  have := atoms_len s
  rcases h with ⟨h, _, _⟩ | ⟨h, _, _⟩ | ⟨h, _, _⟩ <;> omega
/-- the bytes of what a change makes: where each was, or what was put -/
def midsA : Nat → List Atm → List (Int × UInt8)
  | _, [] => []
  | i, .k :: l => ((i : Int), 0) :: midsA (i + 1) l
  | i, .d _ :: l => midsA (i + 1) l
  | i, .p c :: l => (-1, c) :: midsA i l
def bytesA : List Atm → List UInt8
  | [] => []
  | .k :: l => 0 :: bytesA l
  | .d c :: l => c :: bytesA l
  | .p _ :: l => bytesA l
/-- the bytes that are made, up to a place -/
def midsTo (P : List (List UInt8)) (D : List Bool) : Nat → List (Int × UInt8)
  | 0 => []
  | p + 1 => midsTo P D p ++ (P.getD p []).map (fun c => (-1, c)) ++ (if D.getD p true = false then [((p : Int), 0)] else [])
end Go.Eng

/-
  Plain facts on changes: two changes carried over each other. No condition.
-/
namespace Go.Eng
open Go
/-- two changes byte by byte, carried over each other; none: they are apart -/
def carA : List Atm → List Atm → Option (List Atm × List Atm)
  | .p b :: xs, ys => (carA xs ys).map fun o => (.p b :: o.1, .k :: o.2)
  | [], .p b :: ys => (carA [] ys).map fun o => (.k :: o.1, .p b :: o.2)
  | .k :: xs, .p b :: ys => (carA (.k :: xs) ys).map fun o => (.k :: o.1, .p b :: o.2)
  | .d c :: xs, .p b :: ys => (carA (.d c :: xs) ys).map fun o => (.k :: o.1, .p b :: o.2)
  | .k :: xs, .k :: ys => (carA xs ys).map fun o => (.k :: o.1, .k :: o.2)
  | .d b :: xs, .k :: ys => (carA xs ys).map fun o => (.d b :: o.1, o.2)
  | .k :: xs, .d b :: ys => (carA xs ys).map fun o => (o.1, .d b :: o.2)
  | .d b :: xs, .d c :: ys => if b = c then carA xs ys else none
  | [], [] => some ([], [])
  | [], .k :: _ => some ([], [])
  | [], .d _ :: _ => some ([], [])
  | .k :: _, [] => some ([], [])
  | .d _ :: _, [] => some ([], [])
termination_by xs ys => xs.length + ys.length
/-- the answer, from here on, with both builders at hand -/
def carT (U V : Bld) (n : Nat) (xs ys : List Atm) : Option (List Stp × List Stp × Nat) := (carA xs ys).map fun o => ((U.run o.1).close.l, (V.run o.2).close.l, n + toA o.1)
/-- what two changes carried over each other come to -/
def carP (a b : List Stp) : Int ⊕ (List Stp × List Stp) := match sizesOf a, sizesOf b with
  | some (from_, _), some (same, _) => if from_ ≠ same then .inl 5 else match carT Bld.start Bld.start 0 (nfOf (gapsOf a)) (nfOf (gapsOf b)) with
    | none => .inl 270
    | some (u, v, n) => if 65536 < n then .inl 3 else .inr (u, v)
  | _, _ => .inl 2
end Go.Eng

/-
  Plain facts on changes: carried over each other they come to one text; one behind the other the same. No condition.
-/
namespace Go.Eng
open Go
/-- the builder over bytes is the builder over gaps -/
theorem bld_atom (g : Gs) (a : Atm) : (bldGs g).atom a = bldGs (g.atom a) := by
  cases a with
  | k => simp [Bld.atom, bldGs, Gs.atom, bldGap]
  | d c => simp [Bld.atom, bldGs, Gs.atom]
  | p c => simp [Bld.atom, bldGs, Gs.atom]
theorem bld_run : ∀ (L : List Atm) (g : Gs), (bldGs g).run L = bldGs (g.run L)
  | [], _ => rfl
  | a :: L, g => by
    rw [show g.run (a :: L) = (g.atom a).run L from rfl, ← bld_run L (g.atom a), ← bld_atom]; rfl
theorem start_run (L : List Atm) : Bld.start.run L = bldGs (Gs.start.run L) := bld_run L Gs.start
/-- the list that a builder makes of bytes -/
def listOf (L : List Atm) : List Stp := (Bld.start.run L).close.l
theorem list_ok (L : List Atm) : (∀ s ∈ listOf L, stpOk s) ∧ atomsOf (listOf L) = nfOf (Gs.start.run L) := by
  unfold listOf
  rw [start_run]
  exact ⟨close_ok _ (bldGs_atoms _).2, by rw [close_atoms, (bldGs_atoms _).1]⟩
theorem list_sizes (L : List Atm) : fromA (atomsOf (listOf L)) = fromA L ∧ toA (atomsOf (listOf L)) = toA L := by
  obtain ⟨h1, h2⟩ := nf_run L Gs.start
  rw [(list_ok L).2, h1, h2]
  simp [Gs.start, nfOf, gapA, fromA, toA]
theorem plain_list (l : List Stp) : plainOf l = listOf (nfOf (gapsOf l)) := plain_run l
end Go.Eng

/-
  Plain facts on changes: how much composing and carrying make. No condition.
-/
namespace Go.Eng
open Go
/-- what a change that may be is of, in its one form -/
theorem nf_len {l : List Stp} {f t : Int} (h : sizesOf l = some (f, t)) : (nfOf (gapsOf l)).length ≤ 131072 ∧ (fromA (nfOf (gapsOf l)) : Int) = f ∧ (toA (nfOf (gapsOf l)) : Int) = t := by
  obtain ⟨h1, h2, h3, h4, h5⟩ := sizesOf_some h
  have hok : ∀ s ∈ l, stpOk s := fun s hs => (h1 s hs).1
  obtain ⟨n1, n2⟩ := nf_sizes l hok
  have := atoms_le (nfOf (gapsOf l))
  unfold maxT at h4 h5
  omega
end Go.Eng

/-
  Plain facts on changes: turned about; their one form. No condition.
-/
namespace Go.Eng
open Go
def Atm.inv : Atm → Atm
  | .k => .k
  | .d b => .p b
  | .p b => .d b
def Stp.inv (s : Stp) : Stp := ⟨s.k, s.p, s.d⟩
def Gap.inv (g : Gap) : Gap := ⟨g.d, g.p⟩
def Gs.inv (g : Gs) : Gs := ⟨g.done.map Gap.inv, g.cur.inv⟩
theorem fromA_le : ∀ l : List Atm, fromA l ≤ l.length
  | [] => Nat.le_refl _
  | .k :: l => by have := fromA_le l; simp only [fromA, List.length_cons]; omega
  | .d _ :: l => by have := fromA_le l; simp only [fromA, List.length_cons]; omega
  | .p _ :: l => by have := fromA_le l; simp only [fromA, List.length_cons]; omega
end Go.Eng

/-
  Plain facts on changes that are said and made plain. No condition.
-/
namespace Go.Eng
open Go
theorem plain_said (l : List Stp) : listOf (sdA ((putsOf (gapsOf l)).zip ((dropsOf (gapsOf l)).zip (bytesOf (gapsOf l)))) ((putsOf (gapsOf l)).getD (dropsOf (gapsOf l)).length [])) = plainOf l := by
  rw [plain_list, ← sd_atoms]; rfl
theorem said_small {l : List Stp} {f t : Int} (hs : sizesOf l = some (f, t)) : (sdA ((putsOf (gapsOf l)).zip ((dropsOf (gapsOf l)).zip (bytesOf (gapsOf l)))) ((putsOf (gapsOf l)).getD (dropsOf (gapsOf l)).length [])).length ≤ 200000 := by
  have h : (sdA (posOf (gapsOf l)) (lastOf (gapsOf l))).length ≤ 200000 := by rw [sd_atoms]; have := (nf_len hs).1; omega
  exact h
end Go.Eng

/-
  The walks of the reference's Plain and of the law's spoiling of an answer, for a seat that reaches neither Compose nor Carry. No condition.
-/
namespace Go.Eng
open Go Go.RowKit
theorem bfit_put {N : Nat} {B : Bld} (h : BFit N B) (P : List UInt8) : BFit (N + P.length) ⟨B.l, B.p ++ P, B.d⟩ :=
  ⟨by have := h.len; simp only; omega, fun s hs => by have := h.k s hs; omega, by have := h.p; simp only [List.length_append]; omega, by have := h.d; simp only; omega⟩
theorem bfit_drop {N : Nat} {B : Bld} (h : BFit N B) (P : List UInt8) : BFit (N + P.length) ⟨B.l, B.p, B.d ++ P⟩ :=
  ⟨by have := h.len; simp only; omega, fun s hs => by have := h.k s hs; omega, by have := h.p; simp only; omega, by have := h.d; simp only [List.length_append]; omega⟩
theorem pos_drop {PX : List (List UInt8)} {DX : List Bool} {BX : List UInt8} {p : Nat} (h1 : BX.length = DX.length) (h2 : PX.length = DX.length + 1) (hp : p < DX.length) : (PX.zip (DX.zip BX)).drop p = (PX[p], DX[p], BX[p]) :: (PX.zip (DX.zip BX)).drop (p + 1) := by
  rw [List.drop_eq_getElem_cons (by simp only [List.length_zip]; omega)]
  simp
theorem getD_last {PX : List (List UInt8)} {N p : Nat} (hp : p = N) (h : p < PX.length) : PX.getD N [] = PX[p] := by
  subst hp
  rw [List.getD_eq_getElem?_getD, List.getElem?_eq_getElem h]; rfl
theorem pos_end {PX : List (List UInt8)} {DX : List Bool} {BX : List UInt8} {p : Nat} (h : DX.length ≤ p) : (PX.zip (DX.zip BX)).drop p = [] := List.drop_eq_nil_of_le (by simp only [List.length_zip]; omega)
/-- how much is left, place by place -/
theorem pos_less {PX : List (List UInt8)} {DX : List Bool} {BX : List UInt8} {p : Nat} (h1 : BX.length = DX.length) (h2 : PX.length = DX.length + 1) (hp : p < DX.length) :
    (sdA ((PX.zip (DX.zip BX)).drop p) (PX.getD DX.length [])).length = PX[p].length + 1 + (sdA ((PX.zip (DX.zip BX)).drop (p + 1)) (PX.getD DX.length [])).length := by
  rw [pos_drop h1 h2 hp, sdA_cons]
  simp only [List.length_append, List.length_map, List.length_cons]
  omega
theorem pos_left {PX : List (List UInt8)} {DX : List Bool} {BX : List UInt8} {p : Nat} (h1 : BX.length = DX.length) (h2 : PX.length = DX.length + 1) (hp : p < PX.length) : PX[p].length ≤ (sdA ((PX.zip (DX.zip BX)).drop p) (PX.getD DX.length [])).length := by
  by_cases h : p < DX.length
  · rw [pos_less h1 h2 h]; omega
  · rw [pos_end (by omega), sdA_nil, getD_last (by omega) hp, List.length_map]; exact Nat.le_refl _
theorem rows_of {sz : Nat} : ∀ (cap : Nat) (l : List Value), l.length = cap * sz → ∃ es : List (List Value), es.length = cap ∧ es.flatten = l ∧ ∀ e ∈ es, e.length = sz
  | 0, l, h => ⟨[], rfl, by rw [Nat.zero_mul] at h; rw [List.eq_nil_of_length_eq_zero h]; rfl, by simp⟩
  | cap + 1, l, h => by
    rw [Nat.add_mul, Nat.one_mul] at h
    obtain ⟨es, e1, e2, e3⟩ := rows_of (sz := sz) cap (l.drop sz) (by rw [List.length_drop]; omega)
    refine ⟨l.take sz :: es, by simp [e1], by rw [List.flatten_cons, e2, List.take_append_drop], fun e he => ?_⟩
    rcases List.mem_cons.1 he with rfl | he
    · rw [List.length_take]; omega
    · exact e3 e he
theorem subSl_all (c : Option Addr) (cp sz : Nat) : subSl c cp 0 cp sz = .slice c cp cp := by
  unfold subSl
  cases c with
  | none => simp
  | some a => by_cases h : cp = 0 <;> simp [h, Go.Addr.add]
section
variable {P : Program} {ro : Option Nat} {n : Nat} {w0 : World} {Q : Exit → Act → World → Prop} {r : Env} {ds : List Nat} {m : Mem} {H : SHeap}
/-- a row up to its last room -/
theorem WC.rowFull {c : Code} {a : Option Addr} {cap : Nat} {T : TypeId} {sz : Nat} {es : List (List Value)} (hle : es.length ≤ 9223372036854775807) (h : ∀ es', es'.length = cap → cap ≤ 9223372036854775807 → WC P ro n w0 c Q r ds m (.row a cap T sz es' :: H)) : WC P ro n w0 c Q r ds m (.row a cap T sz es :: H) := by
  intro tmps w ho hs
  have h0 := hs.own _ List.mem_cons_self
  cases a with
  | none =>
    have h1 : es = [] ∧ cap = 0 := h0
    obtain ⟨rfl, rfl⟩ := h1
    exact h [] rfl (Nat.zero_le _) tmps w ho hs
  | some a =>
    obtain ⟨arr, fz, h1, h2, h3, h4, h5, h6, h7, h8⟩ := h0
    obtain ⟨es', e1, e2, e3⟩ := rows_of (sz := sz) cap arr.toList (by simp [h3])
    refine h es' e1 (h8 hle) tmps w ho ⟨hs.os, hs.tape, hs.output, hs.size, hs.pers, fun i hi => ?_, by simpa [SHeap.foot, Item.foot] using hs.sep, by simpa [SHeap.foot, Item.foot] using hs.free⟩
    cases hi with
    | head => exact ⟨arr, fz, h1, h2, h3, by omega, by rw [e1, e2, ← h3]; exact List.take_of_length_le (by simp), e3, h7, fun _ => h8 hle⟩
    | tail _ hi => exact hs.own i (List.mem_cons_of_mem _ hi)
end
end Go.Eng
namespace Go.Proofs.YtelgegefmjlimaaDoor
open Go Go.Eng
set_option maxRecDepth 100000
set_option maxHeartbeats 4000000
set_option linter.all false
attribute [local irreducible] WL WC WQ QFun QLoop Does Q1 QRound QAssign Go.Addr.add
theorem own_any {c : Option Addr} {cp k : Nat} {es : List (List Value)} (hk : k = es.length) (hle : es.length ≤ 1000000000) (w0 : World) (m : Mem) (H : SHeap) :
    Does Tryd.prog 36 #[.slice c k cp] w0 m (.row c cp 39 3 es :: H) (fun v m' H' => v = .tuple #[] ∧ m' = m ∧ H' = H) := by
  refine Does.of_body (args := [.slice c k cp]) Tryd.func36 rfl Tryd.ntmps36 rfl ?_
  refine WC.rowCap (a := c) zhs fun hcap => ?_
  refine WC.rowFull (by omega) ?_
  rintro E hE hcp
  have hk2 : k ≤ E.length := by omega
  (try (refine st ?_; intros))
  refine WL.capSl rfl rfl rfl ?_
  (try (refine st ?_; intros))
  rw [subSl_all]
  have hk3 : cp = E.length := hE.symm
  refine WC.loopH [(2, .int .i64 ((0) : Int)), (0, .slice c cp cp)] ?_ ?_ (fun j r ds m' H' => ∃ (i : Nat) (E : List (List Value)), j = cp - i ∧ r = [(2, .int .i64 (i : Int)), (0, .slice c cp cp)] ∧ ds = [] ∧ m = m' ∧ H' = .row c cp 39 3 E :: H ∧ (i ≤ cp) ∧ (E.length = cp)) (cp - (0)) ⟨0, E, rfl, rfl, rfl, rfl, rfl, by omega, hE⟩ ?_
  · (repeat (first | exact Env.Sub.nil | refine Env.Sub.cons rfl ?_))
  · exact zpk
  rintro j r ds m' H' ⟨i, E, rfl, rfl, rfl, rfl, rfl, hi, hE⟩
  by_cases hlt : i < cp
  · refine WC.rowSome (a := c) zhs (by omega) ?_
    rintro c0 rfl
    (try (refine st ?_; intros))
    refine WQ.next (cp - (i + 1)) ⟨i + 1, E.set i [.int .i64 (-1), str [115, 112, 111, 105, 108, 116], str []], rfl, rfl, rfl, rfl, rfl, ?_, ?_⟩ (by omega) zsb zpk
    · omega
    · rw [List.length_set]; exact hE
  · obtain rfl : i = cp := by omega
    (try (refine st ?_; intros))
    exact q_finNorm0 (H0 := H) ⟨rfl, rfl, rfl⟩ (hd := zpk)
attribute [local irreducible] sizesF sizesOf putsOf dropsOf bytesOf gapsOf applyA plainOf
theorem cmx_EQP_0 {G G' : Prop} (next : G') (h : Bx G' → G := by intro zzn; (try (refine wcal 0 ?_ (hwl := by intro zm zF zle; try refine WL.blkStr (s := [d]) rfl zhs rfl rfl rfl rfl rfl rfl rfl ?_; ((repeat (refine sp ?_; intros)); exact WQ.q1 rfl)))); (try (refine wcal 1 ?_ (hwl := by intro zm zF zle; try refine WL.blkStr (s := [d]) rfl zhs rfl rfl rfl rfl rfl rfl rfl ?_; ((repeat (refine sp ?_; intros)); exact WQ.q1 rfl)))); (try (refine wcal 2 ?_ (hwl := by intro zm zF zle; try refine WL.blkStr (s := [d]) rfl zhs rfl rfl rfl rfl rfl rfl rfl ?_; ((repeat (refine sp ?_; intros)); exact WQ.q1 rfl)))); (try (refine wcal 3 ?_ (hwl := by intro zm zF zle; try refine WL.blkStr (s := [d]) rfl zhs rfl rfl rfl rfl rfl rfl rfl ?_; ((repeat (refine sp ?_; intros)); exact WQ.q1 rfl)))); (try (refine wcal 4 ?_ (hwl := by intro zm zF zle; try refine WL.blkStr (s := [d]) rfl zhs rfl rfl rfl rfl rfl rfl rfl ?_; ((repeat (refine sp ?_; intros)); exact WQ.q1 rfl)))); (try (refine wcal 5 ?_ (hwl := by intro zm zF zle; try refine WL.blkStr (s := [d]) rfl zhs rfl rfl rfl rfl rfl rfl rfl ?_; ((repeat (refine sp ?_; intros)); exact WQ.q1 rfl)))); (try (refine wcal 6 ?_ (hwl := by intro zm zF zle; try refine WL.blkStr (s := [d]) rfl zhs rfl rfl rfl rfl rfl rfl rfl ?_; ((repeat (refine sp ?_; intros)); exact WQ.q1 rfl)))); (try (refine wcal 7 ?_ (hwl := by intro zm zF zle; try refine WL.blkStr (s := [d]) rfl zhs rfl rfl rfl rfl rfl rfl rfl ?_; ((repeat (refine sp ?_; intros)); exact WQ.q1 rfl)))); (try (refine wcal 8 ?_ (hwl := by intro zm zF zle; try refine WL.blkStr (s := [d]) rfl zhs rfl rfl rfl rfl rfl rfl rfl ?_; ((repeat (refine sp ?_; intros)); exact WQ.q1 rfl)))); (try (refine wcal 9 ?_ (hwl := by intro zm zF zle; try refine WL.blkStr (s := [d]) rfl zhs rfl rfl rfl rfl rfl rfl rfl ?_; ((repeat (refine sp ?_; intros)); exact WQ.q1 rfl)))); (try (refine wcal 10 ?_ (hwl := by intro zm zF zle; try refine WL.blkStr (s := [d]) rfl zhs rfl rfl rfl rfl rfl rfl rfl ?_; ((repeat (refine sp ?_; intros)); exact WQ.q1 rfl)))); (try (refine wcal 11 ?_ (hwl := by intro zm zF zle; try refine WL.blkStr (s := [d]) rfl zhs rfl rfl rfl rfl rfl rfl rfl ?_; ((repeat (refine sp ?_; intros)); exact WQ.q1 rfl)))); (try (refine wcal 12 ?_ (hwl := by intro zm zF zle; try refine WL.blkStr (s := [d]) rfl zhs rfl rfl rfl rfl rfl rfl rfl ?_; ((repeat (refine sp ?_; intros)); exact WQ.q1 rfl)))); (try (refine wcal 13 ?_ (hwl := by intro zm zF zle; try refine WL.blkStr (s := [d]) rfl zhs rfl rfl rfl rfl rfl rfl rfl ?_; ((repeat (refine sp ?_; intros)); exact WQ.q1 rfl)))); (try (refine wcal 14 ?_ (hwl := by intro zm zF zle; try refine WL.blkStr (s := [d]) rfl zhs rfl rfl rfl rfl rfl rfl rfl ?_; ((repeat (refine sp ?_; intros)); exact WQ.q1 rfl)))); (try (refine wcal 15 ?_ (hwl := by intro zm zF zle; try refine WL.blkStr (s := [d]) rfl zhs rfl rfl rfl rfl rfl rfl rfl ?_; ((repeat (refine sp ?_; intros)); exact WQ.q1 rfl)))); (try (refine wcal 16 ?_ (hwl := by intro zm zF zle; try refine WL.blkStr (s := [d]) rfl zhs rfl rfl rfl rfl rfl rfl rfl ?_; ((repeat (refine sp ?_; intros)); exact WQ.q1 rfl)))); (try (refine wcal 17 ?_ (hwl := by intro zm zF zle; try refine WL.blkStr (s := [d]) rfl zhs rfl rfl rfl rfl rfl rfl rfl ?_; ((repeat (refine sp ?_; intros)); exact WQ.q1 rfl)))); (try (refine wcal 18 ?_ (hwl := by intro zm zF zle; try refine WL.blkStr (s := [d]) rfl zhs rfl rfl rfl rfl rfl rfl rfl ?_; ((repeat (refine sp ?_; intros)); exact WQ.q1 rfl)))); (try (refine wcal 19 ?_ (hwl := by intro zm zF zle; try refine WL.blkStr (s := [d]) rfl zhs rfl rfl rfl rfl rfl rfl rfl ?_; ((repeat (refine sp ?_; intros)); exact WQ.q1 rfl)))); (try (refine wcal 20 ?_ (hwl := by intro zm zF zle; try refine WL.blkStr (s := [d]) rfl zhs rfl rfl rfl rfl rfl rfl rfl ?_; ((repeat (refine sp ?_; intros)); exact WQ.q1 rfl)))); (try (refine wcal 21 ?_ (hwl := by intro zm zF zle; try refine WL.blkStr (s := [d]) rfl zhs rfl rfl rfl rfl rfl rfl rfl ?_; ((repeat (refine sp ?_; intros)); exact WQ.q1 rfl)))); (try (refine wcal 22 ?_ (hwl := by intro zm zF zle; try refine WL.blkStr (s := [d]) rfl zhs rfl rfl rfl rfl rfl rfl rfl ?_; ((repeat (refine sp ?_; intros)); exact WQ.q1 rfl)))); (try (refine wcal 23 ?_ (hwl := by intro zm zF zle; try refine WL.blkStr (s := [d]) rfl zhs rfl rfl rfl rfl rfl rfl rfl ?_; ((repeat (refine sp ?_; intros)); exact WQ.q1 rfl)))); (try (refine wcal 24 ?_ (hwl := by intro zm zF zle; try refine WL.blkStr (s := [d]) rfl zhs rfl rfl rfl rfl rfl rfl rfl ?_; ((repeat (refine sp ?_; intros)); exact WQ.q1 rfl)))); (try (refine wcal 25 ?_ (hwl := by intro zm zF zle; try refine WL.blkStr (s := [d]) rfl zhs rfl rfl rfl rfl rfl rfl rfl ?_; ((repeat (refine sp ?_; intros)); exact WQ.q1 rfl)))); (try (refine wcal 26 ?_ (hwl := by intro zm zF zle; try refine WL.blkStr (s := [d]) rfl zhs rfl rfl rfl rfl rfl rfl rfl ?_; ((repeat (refine sp ?_; intros)); exact WQ.q1 rfl)))); (try (refine wcal 27 ?_ (hwl := by intro zm zF zle; try refine WL.blkStr (s := [d]) rfl zhs rfl rfl rfl rfl rfl rfl rfl ?_; ((repeat (refine sp ?_; intros)); exact WQ.q1 rfl)))); (try (refine wcal 28 ?_ (hwl := by intro zm zF zle; try refine WL.blkStr (s := [d]) rfl zhs rfl rfl rfl rfl rfl rfl rfl ?_; ((repeat (refine sp ?_; intros)); exact WQ.q1 rfl)))); (try (refine wcal 29 ?_ (hwl := by intro zm zF zle; try refine WL.blkStr (s := [d]) rfl zhs rfl rfl rfl rfl rfl rfl rfl ?_; ((repeat (refine sp ?_; intros)); exact WQ.q1 rfl)))); (try (refine wcal 30 ?_ (hwl := by intro zm zF zle; try refine WL.blkStr (s := [d]) rfl zhs rfl rfl rfl rfl rfl rfl rfl ?_; ((repeat (refine sp ?_; intros)); exact WQ.q1 rfl)))); (try (refine wcal 31 ?_ (hwl := by intro zm zF zle; try refine WL.blkStr (s := [d]) rfl zhs rfl rfl rfl rfl rfl rfl rfl ?_; ((repeat (refine sp ?_; intros)); exact WQ.q1 rfl)))); (try (refine wcal 32 ?_ (hwl := by intro zm zF zle; try refine WL.blkStr (s := [d]) rfl zhs rfl rfl rfl rfl rfl rfl rfl ?_; ((repeat (refine sp ?_; intros)); exact WQ.q1 rfl)))); (try (refine wcal 33 ?_ (hwl := by intro zm zF zle; try refine WL.blkStr (s := [d]) rfl zhs rfl rfl rfl rfl rfl rfl rfl ?_; ((repeat (refine sp ?_; intros)); exact WQ.q1 rfl)))); (try (refine wcal 34 ?_ (hwl := by intro zm zF zle; try refine WL.blkStr (s := [d]) rfl zhs rfl rfl rfl rfl rfl rfl rfl ?_; ((repeat (refine sp ?_; intros)); exact WQ.q1 rfl)))); (try (refine wcal 35 ?_ (hwl := by intro zm zF zle; try refine WL.blkStr (s := [d]) rfl zhs rfl rfl rfl rfl rfl rfl rfl ?_; ((repeat (refine sp ?_; intros)); exact WQ.q1 rfl)))); (try (refine wcal 36 ?_ (hwl := by intro zm zF zle; try refine WL.blkStr (s := [d]) rfl zhs rfl rfl rfl rfl rfl rfl rfl ?_; ((repeat (refine sp ?_; intros)); exact WQ.q1 rfl)))); (try (refine wcal 37 ?_ (hwl := by intro zm zF zle; try refine WL.blkStr (s := [d]) rfl zhs rfl rfl rfl rfl rfl rfl rfl ?_; ((repeat (refine sp ?_; intros)); exact WQ.q1 rfl)))); (try (refine wcal 38 ?_ (hwl := by intro zm zF zle; try refine WL.blkStr (s := [d]) rfl zhs rfl rfl rfl rfl rfl rfl rfl ?_; ((repeat (refine sp ?_; intros)); exact WQ.q1 rfl)))); (try (refine wcal 39 ?_ (hwl := by intro zm zF zle; try refine WL.blkStr (s := [d]) rfl zhs rfl rfl rfl rfl rfl rfl rfl ?_; ((repeat (refine sp ?_; intros)); exact WQ.q1 rfl)))); (try (refine wcal 40 ?_ (hwl := by intro zm zF zle; try refine WL.blkStr (s := [d]) rfl zhs rfl rfl rfl rfl rfl rfl rfl ?_; ((repeat (refine sp ?_; intros)); exact WQ.q1 rfl)))); (try (refine wcal 41 ?_ (hwl := by intro zm zF zle; try refine WL.blkStr (s := [d]) rfl zhs rfl rfl rfl rfl rfl rfl rfl ?_; ((repeat (refine sp ?_; intros)); exact WQ.q1 rfl)))); exact zzn.out) : G := h ⟨next⟩
theorem mdrop_any {b : Nat} {c : Option Addr} {cp : Nat} (B : Bld) (d : UInt8) (hB : B.d.length ≤ 100000000000) (w0 : World) (m : Mem) (H : SHeap) :
    Does Tryd.prog 57 #[.pointer (some ⟨b, 0, none⟩), .int .u8 (d.toNat : Int)] w0 m (.blk b (.cells [.slice c B.l.length cp, str B.p, str B.d].toArray 111 (0, 0)) :: H)
      (fun v m' H' => v = .tuple #[] ∧ m' = m ∧ H' = .blk b (.cells [.slice c B.l.length cp, str B.p, str (B.d ++ [d])].toArray 111 (0, 0)) :: H) := by
  refine Does.of_body (args := [.pointer (some ⟨b, 0, none⟩), .int .u8 (d.toNat : Int)]) Tryd.func57 rfl Tryd.ntmps57 rfl ?_
  have hd1 : [d].length = 1 := rfl
  refine WC.drawE 11 ([.blk b (.cells [.slice c B.l.length cp, str B.p, str B.d].toArray 111 (0, 0))]) (H) rfl (by decide +kernel) zpk ?_
  (refine cm0 ?_)
  refine WE.act1 6 (by decide +kernel) rfl rfl (fun c h => by cases h) ?_
  (refine st ?_; intros; rename_i q)
  refine WQ.acted (B := [.blk q (.cells [.int .u8 (d.toNat : Int)].toArray 5 (0, 0))]) (U := H) rfl (Mem.le.refl _) zpk ?_
  (refine cmx_EQP_0 ?_)
  (refine cm0 ?_)
  refine WE.done (by decide +kernel) ?_
  (try (refine st ?_; intros))
  exact q_finNorm0 (H0 := .blk b (.cells [.slice c B.l.length cp, str B.p, str (B.d ++ [d])].toArray 111 (0, 0)) :: H) ⟨rfl, rfl, rfl⟩ (hd := zpk)
theorem rPlain_any {q2 q4 q6 : Nat} {PX : List (List UInt8)} {DX : List Bool} {BX : List UInt8} (la1 : BX.length = DX.length) (la2 : PX.length = DX.length + 1) (hln : (sdA (PX.zip (DX.zip BX)) (PX.getD DX.length [])).length ≤ 200000) (w0 : World) (m : Mem) (H : SHeap) :
    Does Tryd.prog 34 #[.agg #[.slice (some ⟨q2, 0, none⟩) PX.length PX.length, .slice (some ⟨q4, 0, none⟩) DX.length DX.length, .slice (some ⟨q6, 0, none⟩) BX.length BX.length]] w0 m (.row (some ⟨q2, 0, none⟩) PX.length 9 1 (PX.map sV) :: .row (some ⟨q4, 0, none⟩) DX.length 4 1 (DX.map oV) :: .row (some ⟨q6, 0, none⟩) BX.length 5 1 (BX.map uV) :: H)
      (fun v m' H' => m' = m ∧ ∃ c cp, v = .slice c (listOf (sdA (PX.zip (DX.zip BX)) (PX.getD DX.length []))).length cp ∧ H' = .row c cp 55 3 ((listOf (sdA (PX.zip (DX.zip BX)) (PX.getD DX.length []))).map Stp.cs) :: H) := by
  refine Does.of_body (args := [.agg #[.slice (some ⟨q2, 0, none⟩) PX.length PX.length, .slice (some ⟨q4, 0, none⟩) DX.length DX.length, .slice (some ⟨q6, 0, none⟩) BX.length BX.length]]) Tryd.func34 rfl Tryd.ntmps34 rfl ?_
  have hPl : (PX.map sV).length = PX.length := by simp
  have hDl : (DX.map oV).length = DX.length := by simp
  have hBl : (BX.map uV).length = BX.length := by simp
  have hDle : DX.length ≤ 200000 := by
    have h1 := sd_from (PX.getD DX.length []) (PX.zip (DX.zip BX))
    have h2 := fromA_le (sdA (PX.zip (DX.zip BX)) (PX.getD DX.length []))
    simp only [List.length_zip] at h1
    omega
  have hlist : listOf (sdA (PX.zip (DX.zip BX)) (PX.getD DX.length [])) = (Bld.start.run (sdA (PX.zip (DX.zip BX)) (PX.getD DX.length []))).close.l := rfl
  generalize listOf (sdA (PX.zip (DX.zip BX)) (PX.getD DX.length [])) = R at *
  (refine st ?_; intros; rename_i x bm)
  refine WC.newRow (T := 55) (sz := 3) ?_
  refine WC.loopH [(4, .int .i64 ((0) : Int)), (3, .pointer (some ⟨bm, 0, none⟩)), (1, .pointer (some ⟨x, 0, none⟩))] ?_ ?_ (fun j r ds m' H' => ∃ (p : Nat) (c : Option Addr) (cp : Nat) (B : Bld) (k : Nat), j = PX.length - p ∧ r = [(4, .int .i64 (p : Int)), (3, .pointer (some ⟨bm, 0, none⟩)), (1, .pointer (some ⟨x, 0, none⟩))] ∧ ds = [] ∧ m = m' ∧ H' = .blk bm (.cells [.slice c B.l.length cp, str B.p, str B.d].toArray 111 (0, 0)) :: .row c cp 55 3 (B.l.map Stp.cs) :: .blk x (.cells [.slice (some ⟨q2, 0, none⟩) PX.length PX.length, .slice (some ⟨q4, 0, none⟩) DX.length DX.length, .slice (some ⟨q6, 0, none⟩) BX.length BX.length].toArray 76 (0, 0)) :: .row (some ⟨q2, 0, none⟩) PX.length 9 1 (PX.map sV) :: .row (some ⟨q4, 0, none⟩) DX.length 4 1 (DX.map oV) :: .row (some ⟨q6, 0, none⟩) BX.length 5 1 (BX.map uV) :: H ∧ (p ≤ PX.length) ∧ (BFit k B) ∧ ((p ≤ DX.length ∧ k + 4 * (sdA ((PX.zip (DX.zip BX)).drop p) (PX.getD DX.length [])).length ≤ 10000000) ∨ (p = DX.length + 1 ∧ k ≤ 10000000)) ∧ ((p ≤ DX.length → R = (B.run (sdA ((PX.zip (DX.zip BX)).drop p) (PX.getD DX.length []))).close.l) ∧ (p = DX.length + 1 → R = B.close.l))) (PX.length - (0)) ⟨0, none, 0, Bld.start, 0, rfl, rfl, rfl, rfl, rfl, by omega, BFit.start, by rw [List.drop_zero]; exact .inl ⟨by omega, by omega⟩, by rw [List.drop_zero]; exact ⟨fun _ => hlist, fun h => by omega⟩⟩ ?_
  · (repeat (first | exact Env.Sub.nil | refine Env.Sub.cons rfl ?_))
  · exact zpk
  rintro j r ds m' H' ⟨p, c, cp, B, k, rfl, rfl, rfl, rfl, rfl, hp, hB, hk, ht⟩
  have hBp := hB.p
  have hBd := hB.d
  by_cases hlt : p < PX.length
  · have hk1 : k + 4 * (sdA ((PX.zip (DX.zip BX)).drop p) (PX.getD DX.length [])).length ≤ 10000000 := by omega
    have ht1 := ht.1 (by omega)
    have hgx : (PX.map sV)[p]? = some [str PX[p]] := by rw [List.getElem?_map, List.getElem?_eq_getElem hlt]; rfl
    have hB1 := bfit_put hB PX[p]
    by_cases hpd : p < DX.length
    · have hxb : p < BX.length := by omega
      have gxd : (DX.map oV)[p]? = some [.bool DX[p]] := by rw [List.getElem?_map, List.getElem?_eq_getElem hpd]; rfl
      have gxb : (BX.map uV)[p]? = some [.int .u8 (BX[p].toNat : Int)] := by rw [List.getElem?_map, List.getElem?_eq_getElem hxb]; rfl
      rw [pos_less la1 la2 hpd] at hk1
      rw [pos_drop la1 la2 hpd, sdA_cons, run_append, run_p] at ht1
      dsimp only at ht1
      cases hdx : DX[p] with
      | true =>
        rw [hdx] at gxd ht1
        (try (refine st ?_; intros))
        refine WL.heap (H' := .blk bm (.cells [.slice c B.l.length cp, str (B.p ++ PX[p]), str B.d].toArray 111 (0, 0)) :: .row c cp 55 3 (B.l.map Stp.cs) :: .blk x (.cells [.slice (some ⟨q2, 0, none⟩) PX.length PX.length, .slice (some ⟨q4, 0, none⟩) DX.length DX.length, .slice (some ⟨q6, 0, none⟩) BX.length BX.length].toArray 76 (0, 0)) :: .row (some ⟨q2, 0, none⟩) PX.length 9 1 (PX.map sV) :: .row (some ⟨q4, 0, none⟩) DX.length 4 1 (DX.map oV) :: .row (some ⟨q6, 0, none⟩) BX.length 5 1 (BX.map uV) :: H) zpk ?_
        refine w_callF Tryd.func57 ?_ (hs := mdrop_any ⟨B.l, B.p ++ PX[p], B.d⟩ BX[p] (by simp only; omega) _ _ _)
        rintro v m H1 ⟨rfl, rfl, rfl⟩
        (try (refine st ?_; intros))
        refine WQ.next (PX.length - (p + 1)) ⟨p + 1, c, cp, ⟨B.l, B.p ++ PX[p], B.d ++ [BX[p]]⟩, k + PX[p].length + 1, rfl, rfl, rfl, rfl, rfl, ?_, ?_, ?_, ?_⟩ (by omega) zsb zpk
        · omega
        · exact (bfit_drop hB1 [BX[p]]).mono (by simp only [List.length_singleton]; omega)
        · exact .inl ⟨by omega, by omega⟩
        · exact ⟨fun _ => ht1, fun h => by omega⟩
      | false =>
        rw [hdx] at gxd ht1
        (try (refine st ?_; intros))
        refine WL.heap (H' := .blk bm (.cells [.slice c B.l.length cp, str (B.p ++ PX[p]), str B.d].toArray 111 (0, 0)) :: .row c cp 55 3 (B.l.map Stp.cs) :: .blk x (.cells [.slice (some ⟨q2, 0, none⟩) PX.length PX.length, .slice (some ⟨q4, 0, none⟩) DX.length DX.length, .slice (some ⟨q6, 0, none⟩) BX.length BX.length].toArray 76 (0, 0)) :: .row (some ⟨q2, 0, none⟩) PX.length 9 1 (PX.map sV) :: .row (some ⟨q4, 0, none⟩) DX.length 4 1 (DX.map oV) :: .row (some ⟨q6, 0, none⟩) BX.length 5 1 (BX.map uV) :: H) zpk ?_
        refine w_callF Tryd.func58 ?_ (hs := mkeep_any ⟨B.l, B.p ++ PX[p], B.d⟩ 1 (by omega) (hB1.mono (by omega)) _ _ _)
        rintro v m H1 ⟨rfl, rfl, c2, cp2, rfl⟩
        (try (refine st ?_; intros))
        refine WQ.next (PX.length - (p + 1)) ⟨p + 1, c2, cp2, (⟨B.l, B.p ++ PX[p], B.d⟩ : Bld).keep ((1 : Nat) : Int), k + PX[p].length + 4, rfl, rfl, rfl, rfl, rfl, ?_, ?_, ?_, ?_⟩ (by omega) zsb zpk
        · omega
        · exact (hB1.keep (n := 1)).mono (by omega)
        · exact .inl ⟨by omega, by omega⟩
        · exact ⟨fun _ => ht1, fun h => by omega⟩
    · have hpe : p = DX.length := by omega
      have hbx := pos_left la1 la2 hlt
      rw [pos_end (by omega), sdA_nil, getD_last hpe hlt, run_p] at ht1
      (try (refine st ?_; intros))
      refine WQ.next (PX.length - (p + 1)) ⟨p + 1, c, cp, ⟨B.l, B.p ++ PX[p], B.d⟩, k + PX[p].length, rfl, rfl, rfl, rfl, rfl, ?_, ?_, ?_, ?_⟩ (by omega) zsb zpk
      · omega
      · exact hB1
      · exact .inr ⟨by omega, by omega⟩
      · exact ⟨fun h => by omega, fun _ => ht1⟩
  · have hpe : p = DX.length + 1 := by omega
    have ht1 := ht.2 hpe
    have hBl := hB.len
    (try (refine st ?_; intros))
    refine WL.heap (H' := .blk bm (.cells [.slice c B.l.length cp, str B.p, str B.d].toArray 111 (0, 0)) :: .row c cp 55 3 (B.l.map Stp.cs) :: H) zpk ?_
    refine w_callF Tryd.func59 ?_ (hs := end_any B (by omega) _ _ _)
    rintro v m H1 ⟨rfl, rfl, c2, cp2, rfl⟩
    (try (refine st ?_; intros))
    rw [ht1]
    exact q_fin0 (H0 := .row c2 cp2 55 3 (B.close.l.map Stp.cs) :: H) ⟨rfl, c2, cp2, rfl, rfl⟩ (hd := zpk)
end Go.Proofs.YtelgegefmjlimaaDoor

/-
  Plain facts on changes: lists that builders make, applied. No condition.
-/
namespace Go.Eng
open Go
theorem mem_atoms {l : List Stp} {s : Stp} (h : s ∈ l) : s.atoms.length ≤ (atomsOf l).length := by
  obtain ⟨x, y, rfl⟩ := List.append_of_mem h
  rw [atoms_append, atoms_cons, List.length_append, List.length_append]; omega
theorem fit_list {L : List Atm} (h1 : fromA L ≤ 65536) (h2 : toA L ≤ 65536) : Fit (listOf L) := by
  obtain ⟨e1, e2⟩ := list_sizes L
  have hok := (list_ok L).1
  have ha := atoms_le (atomsOf (listOf L))
  have hl := steps_le (listOf L) hok
  refine ⟨by omega, fun s hs => ?_, fun s hs => ?_, fun s hs => ?_⟩
  all_goals
    have := mem_atoms hs
    have hb := stp_bounds (hok s hs)
    omega
def okV (t : List UInt8) : Value := .tuple #[str t, .int .i64 0]
end Go.Eng

/-
  Plain facts on changes: how long what is carried is; a change carried over many. No condition.
-/
namespace Go.Eng
open Go
theorem fit_plain {l : List Stp} {f t : Int} (hs : sizesOf l = some (f, t)) : Fit (plainOf l) := by
  obtain ⟨hok, _, _, h1, h2, _, h4, _, h6⟩ := sized hs
  obtain ⟨n1, n2⟩ := nf_sizes l hok
  rw [plain_list]
  exact fit_list (by omega) (by omega)
/-- a change carried over a sent one -/
def overP (hand h : Int) (x c : List Stp) : Int ⊕ List Stp := if h ≤ hand then (match carP x c with | .inl e => .inl e | .inr (_, v) => .inr v) else (match carP c x with | .inl e => .inl e | .inr (u, _) => .inr u)
/-- a change carried over many -/
def carriedP (hand : Int) : List (Int × List Stp) → List Stp → Int ⊕ List Stp
  | [], c => .inr c
  | x :: K, c => match overP hand x.1 x.2 c with | .inl e => .inl e | .inr v => carriedP hand K v
end Go.Eng

/-
  The walk of the law EditPlain. No condition.
-/
namespace Go.Eng
open Go
theorem printW_le : ∀ (l : List Stp), (∀ x ∈ l, stpOk x ∧ x.k ≤ 65536) → (printW l).length ≤ 12 * bytesS l + 11 * l.length
  | [], _ => by simp [printW, bytesS]
  | x :: l, h => by
    have h1 := stpW_le (h x List.mem_cons_self).1 (h x List.mem_cons_self).2
    have h2 := printW_le l fun y hy => h y (List.mem_cons_of_mem _ hy)
    have e : bytesS (x :: l) = x.d.length + x.p.length + bytesS l := by simp [bytesS]
    rw [printW_cons, List.length_append, e, List.length_cons]
    split
    · simp only [List.length_nil]; omega
    · simp only [List.length_cons]; omega
theorem small_print {l : List Stp} {f t : Int} (h : smallOf l = true) (hs : sizesOf l = some (f, t)) : (printW l).length ≤ 150000 ∧ l.length ≤ 5001 := by
  obtain ⟨h1, _⟩ := sizesOf_some hs
  obtain ⟨h2, h3⟩ := refN_small l 0 0 h (by omega)
  have h4 := printW_le l fun x hx => ⟨(h1 x hx).1, by have := (h1 x hx).2; have hm : (maxT : Int) = 65536 := rfl; omega⟩
  have h5 : l.length ≤ 5001 := by
    rcases h3 with rfl | h3
    · simp
    · omega
  omega
theorem sizesF_sums : ∀ (l : List Stp) (f t a b : Int), sizesF l f t = some (a, b) → f + (frS l : Int) = a ∧ t + (toS l : Int) = b
  | [], f, t, a, b, h => by
    simp only [sizesF, Option.some.injEq, Prod.mk.injEq] at h
    simp [frS, toS, h.1, h.2]
  | x :: l, f, t, a, b, h => by
    by_cases h1 : stpOk x ∧ x.k ≤ 65536 ∧ f + x.k + x.d.length ≤ 65536 ∧ t + x.k + x.p.length ≤ 65536
    · obtain ⟨g1, g2, g3, g4⟩ := h1
      rw [sizesF_good g1 g2 g3 g4] at h
      have := sizesF_sums l _ _ a b h
      have hk : 0 ≤ x.k := by rcases g1 with ⟨q, _⟩ | ⟨q, _⟩ | ⟨q, _⟩ <;> omega
      simp only [frS, toS, List.map_cons, List.sum_cons] at this ⊢
      omega
    · rw [sizesF_bad h1] at h; cases h
theorem sizes_sums {l : List Stp} {f t : Int} (hs : sizesOf l = some (f, t)) : frS l ≤ 65536 ∧ toS l ≤ 65536 := by
  obtain ⟨_, _, _, h4, h5⟩ := sizesOf_some hs
  have hm : (maxT : Int) = 65536 := rfl
  have := sizesF_sums l 0 0 f t hs
  omega
theorem sizes_each {l : List Stp} {f t : Int} (hs : sizesOf l = some (f, t)) {x : Stp} (hx : x ∈ l) : x.d.length ≤ 65536 ∧ x.p.length ≤ 65536 := by
  obtain ⟨h2, h3⟩ := sizes_sums hs
  obtain ⟨A, B, rfl⟩ := List.append_of_mem hx
  simp only [frS, toS, List.map_append, List.map_cons, List.sum_append, List.sum_cons] at h2 h3
  omega
theorem read_print {l : List Stp} {f t : Int} (hs : sizesOf l = some (f, t)) (hsm : l.length ≤ 5001) : ∃ e, readF (printW l) ((printW l).length + 1) 0 0 0 [] = .yes e l := by
  obtain ⟨h1, _⟩ := sizesOf_some hs
  obtain ⟨h2, h3⟩ := sizes_sums hs
  refine ⟨_, readF_print (s := printW l) l [] _ 0 0 0 (fun x hx => (h1 x hx).1) ?_ (by omega) (by omega) (Nat.zero_le _) (by rw [if_pos (.inl rfl)]; rfl)⟩
  have : ∀ l : List Stp, l.length ≤ (printW l).length := by
    intro l
    induction l with
    | nil => simp
    | cons x l ih =>
      have := stpW_pos x
      rw [printW_cons, List.length_append, List.length_cons]
      split
      · next h => rw [h]; simp only [List.length_nil]; omega
      · simp only [List.length_cons]; omega
  have := this l
  omega
end Go.Eng
namespace Go.Proofs.YtelgegefmjlimaaDoor
open Go Go.Eng
set_option maxRecDepth 100000
set_option maxHeartbeats 4000000
set_option linter.all false
attribute [local irreducible] WL WC WQ QFun QLoop Does Q1 QRound QAssign Go.Addr.add
attribute [local irreducible] sizesOf sizesF readF printW plainOf smallOf
theorem sq_EQ9_1 {G : Prop} (h : G := by (repeat (first | (refine sp ?_; (repeat intro zzc)) | (refine iF 6 rfl ?_; refine w_callG Tryd.func6 ?_ (hs := live_any _ _ _)))); exact WQ.q1 rfl) : G := h
theorem st_EQ9_1 {G G' : Prop} (next : G') (h : Bx G' → G := by intro zzn; (first | ((refine st ?_; (repeat intro zzc)); (try ((first | (refine iF 6 rfl ?_; refine w_callG Tryd.func6 ?_ (hs := live_any _ _ _)) | ((refine iDraw ?_; (first | refine WC.drawAll rfl (by decide +kernel) ?_ | refine WC.draw 1 rfl (by decide +kernel) ?_ | refine WC.draw 2 rfl (by decide +kernel) ?_ | refine WC.draw 3 rfl (by decide +kernel) ?_ | refine WC.draw 4 rfl (by decide +kernel) ?_ | refine WC.draw 5 rfl (by decide +kernel) ?_ | refine WC.draw 6 rfl (by decide +kernel) ?_ | refine WC.draw 7 rfl (by decide +kernel) ?_ | refine WC.draw 8 rfl (by decide +kernel) ?_ | refine WC.draw 9 rfl (by decide +kernel) ?_ | refine WC.draw 10 rfl (by decide +kernel) ?_ | refine WC.draw 11 rfl (by decide +kernel) ?_ | refine WC.draw 12 rfl (by decide +kernel) ?_ | refine WC.draw 13 rfl (by decide +kernel) ?_ | refine WC.draw 14 rfl (by decide +kernel) ?_ | refine WC.draw 15 rfl (by decide +kernel) ?_ | refine WC.draw 16 rfl (by decide +kernel) ?_ | refine WC.draw 17 rfl (by decide +kernel) ?_ | refine WC.draw 18 rfl (by decide +kernel) ?_ | refine WC.draw 19 rfl (by decide +kernel) ?_ | refine WC.draw 20 rfl (by decide +kernel) ?_ | refine WC.draw 21 rfl (by decide +kernel) ?_ | refine WC.draw 22 rfl (by decide +kernel) ?_ | refine WC.draw 23 rfl (by decide +kernel) ?_ | refine WC.draw 24 rfl (by decide +kernel) ?_)); (repeat (refine WD.cons rfl (fun c h => by cases h) sq_EQ9_1 ?_)); refine WD.nil ?_)); (try (refine st ?_; (repeat intro zzc)))))) | ((first | (refine iF 6 rfl ?_; refine w_callG Tryd.func6 ?_ (hs := live_any _ _ _)) | ((refine iDraw ?_; (first | refine WC.drawAll rfl (by decide +kernel) ?_ | refine WC.draw 1 rfl (by decide +kernel) ?_ | refine WC.draw 2 rfl (by decide +kernel) ?_ | refine WC.draw 3 rfl (by decide +kernel) ?_ | refine WC.draw 4 rfl (by decide +kernel) ?_ | refine WC.draw 5 rfl (by decide +kernel) ?_ | refine WC.draw 6 rfl (by decide +kernel) ?_ | refine WC.draw 7 rfl (by decide +kernel) ?_ | refine WC.draw 8 rfl (by decide +kernel) ?_ | refine WC.draw 9 rfl (by decide +kernel) ?_ | refine WC.draw 10 rfl (by decide +kernel) ?_ | refine WC.draw 11 rfl (by decide +kernel) ?_ | refine WC.draw 12 rfl (by decide +kernel) ?_ | refine WC.draw 13 rfl (by decide +kernel) ?_ | refine WC.draw 14 rfl (by decide +kernel) ?_ | refine WC.draw 15 rfl (by decide +kernel) ?_ | refine WC.draw 16 rfl (by decide +kernel) ?_ | refine WC.draw 17 rfl (by decide +kernel) ?_ | refine WC.draw 18 rfl (by decide +kernel) ?_ | refine WC.draw 19 rfl (by decide +kernel) ?_ | refine WC.draw 20 rfl (by decide +kernel) ?_ | refine WC.draw 21 rfl (by decide +kernel) ?_ | refine WC.draw 22 rfl (by decide +kernel) ?_ | refine WC.draw 23 rfl (by decide +kernel) ?_ | refine WC.draw 24 rfl (by decide +kernel) ?_)); (repeat (refine WD.cons rfl (fun c h => by cases h) sq_EQ9_1 ?_)); refine WD.nil ?_)); (try (refine st ?_; (repeat intro zzc))))); (repeat ((first | (refine iF 6 rfl ?_; refine w_callG Tryd.func6 ?_ (hs := live_any _ _ _)) | ((refine iDraw ?_; (first | refine WC.drawAll rfl (by decide +kernel) ?_ | refine WC.draw 1 rfl (by decide +kernel) ?_ | refine WC.draw 2 rfl (by decide +kernel) ?_ | refine WC.draw 3 rfl (by decide +kernel) ?_ | refine WC.draw 4 rfl (by decide +kernel) ?_ | refine WC.draw 5 rfl (by decide +kernel) ?_ | refine WC.draw 6 rfl (by decide +kernel) ?_ | refine WC.draw 7 rfl (by decide +kernel) ?_ | refine WC.draw 8 rfl (by decide +kernel) ?_ | refine WC.draw 9 rfl (by decide +kernel) ?_ | refine WC.draw 10 rfl (by decide +kernel) ?_ | refine WC.draw 11 rfl (by decide +kernel) ?_ | refine WC.draw 12 rfl (by decide +kernel) ?_ | refine WC.draw 13 rfl (by decide +kernel) ?_ | refine WC.draw 14 rfl (by decide +kernel) ?_ | refine WC.draw 15 rfl (by decide +kernel) ?_ | refine WC.draw 16 rfl (by decide +kernel) ?_ | refine WC.draw 17 rfl (by decide +kernel) ?_ | refine WC.draw 18 rfl (by decide +kernel) ?_ | refine WC.draw 19 rfl (by decide +kernel) ?_ | refine WC.draw 20 rfl (by decide +kernel) ?_ | refine WC.draw 21 rfl (by decide +kernel) ?_ | refine WC.draw 22 rfl (by decide +kernel) ?_ | refine WC.draw 23 rfl (by decide +kernel) ?_ | refine WC.draw 24 rfl (by decide +kernel) ?_)); (repeat (refine WD.cons rfl (fun c h => by cases h) sq_EQ9_1 ?_)); refine WD.nil ?_)); (try (refine st ?_; (repeat intro zzc))))); (repeat revert zzc); exact zzn.out) : G := h ⟨next⟩
theorem ePlain_any {a : Option Addr} {cap : Nat} {l : List Stp} (hf : Fit l) (w0 : World) (m : Mem) (H : SHeap) (hr : RowR w0 m H 3 a (l.map Stp.cs)) :
    Does Tryd.prog 33 #[.slice a l.length cap] w0 m H (fun v m' H' => m' = m ∧ ((sizesOf l = none ∧ v = .tuple #[.slice none 0 0, .int .i64 2] ∧ H' = H) ∨ (∃ f t c cp, sizesOf l = some (f, t) ∧ v = .tuple #[.slice c (plainOf l).length cp, .int .i64 0] ∧ H' = .row c cp 39 3 ((plainOf l).map Stp.cs) :: H))) := by
  refine Does.of_body (args := [.slice a l.length cap]) Tryd.func33 rfl Tryd.ntmps33 rfl ?_
  (try (refine st_EQ9_1 ?_; intros))
  refine w_callF Tryd.func32 ?_ (hs := sizes_any hf _ _ _ hr)
  rintro v m H1 ⟨rfl, rfl, rfl⟩
  cases hs : sizesOf l with
  | none =>
    rw [show szP none = .tuple #[.int .i64 0, .int .i64 0, .int .i64 2] from rfl]
    (try (refine st_EQ9_1 ?_; intros))
    exact q_fin0 (H0 := H1) ⟨rfl, .inl ⟨rfl, rfl, rfl⟩⟩ (hd := zpk)
  | some ft =>
    obtain ⟨f, t⟩ := ft
    obtain ⟨hok, hal, _⟩ := sized hs
    rw [show szP (some (f, t)) = .tuple #[.int .i64 f, .int .i64 t, .int .i64 0] from rfl]
    (try (refine st_EQ9_1 ?_; intros))
    refine w_callF Tryd.func40 ?_ (hs := plain_any hok (by omega) _ _ _ hr)
    rintro v m H2 ⟨rfl, c, cp, rfl, rfl⟩
    (try (refine st_EQ9_1 ?_; intros))
    exact q_fin0 (H0 := .row c cp 39 3 ((plainOf l).map Stp.cs) :: H1) ⟨rfl, .inr ⟨f, t, c, cp, rfl, rfl, rfl⟩⟩ (hd := zpk)
theorem ePrintBad_any {a : Option Addr} {cap : Nat} {l : List Stp} (hf : Fit l) (hs : sizesOf l = none) (w0 : World) (m : Mem) (H : SHeap) (hr : RowR w0 m H 3 a (l.map Stp.cs)) :
    Does Tryd.prog 37 #[.slice a l.length cap] w0 m H (Gives (.tuple #[str [], .int .i64 2]) m H) := by
  refine Does.of_body (args := [.slice a l.length cap]) Tryd.func37 rfl Tryd.ntmps37 rfl ?_
  (try (refine st_EQ9_1 ?_; intros))
  refine w_callF Tryd.func32 ?_ (hs := sizes_any hf _ _ _ hr)
  rintro v m H1 ⟨rfl, rfl, rfl⟩
  rw [hs, show szP none = .tuple #[.int .i64 0, .int .i64 0, .int .i64 2] from rfl]
  (try (refine st_EQ9_1 ?_; intros))
  exact q_fin0 (H0 := H1) (Gives.mk rfl) (hd := zpk)
theorem lawSizes_any {pa : Option Addr} {ca : Nat} {l : List Stp} (hfw : FitW l) (w0 : World) (m : Mem) (H : SHeap) (hra : ∀ Hp, RowR w0 m Hp 3 pa (l.map Stp.cs)) :
    Does Tryd.prog 10 #[.slice pa l.length ca] w0 m H (Gives (.bool true) m H) := by
  refine Does.of_body (args := [.slice pa l.length ca]) Tryd.func10 rfl Tryd.ntmps10 rfl ?_
  (try (refine st_EQ9_1 ?_; intros))
  refine w_callF Tryd.func30 ?_ (hs := refW_any hfw _ _ _ hra)
  rintro v m H2 ⟨rfl, (⟨hsm, c1, p1, rfl, rfl⟩ | ⟨hsm, rfl, rfl⟩)⟩
  · have hf := hfw.fit hsm
    have hla := hf.len
    (try (refine st_EQ9_1 ?_; intros))
    refine w_callF Tryd.func31 ?_ (hs := refSizes_any hf _ _ _ (RowR.row (a := c1) zhs))
    rintro v m H1 ⟨rfl, rfl, rfl⟩
    cases hs : sizesOf l with
    | none =>
      rw [show szR none = .tuple #[.int .i64 0, .int .i64 0, .bool false] from rfl]
      (try (refine st_EQ9_1 ?_; intros))
      refine w_callF Tryd.func32 ?_ (hs := sizes_any hf _ _ _ (hra _))
      rintro v m H1 ⟨rfl, rfl, rfl⟩
      rw [hs, show szP none = .tuple #[.int .i64 0, .int .i64 0, .int .i64 2] from rfl]
      (try (refine st_EQ9_1 ?_; intros))
      exact q_fin0 (H0 := H) (Gives.mk rfl) (hd := zpk)
    | some ft =>
      obtain ⟨f, t⟩ := ft
      have hff : f = f := rfl
      have htt : t = t := rfl
      rw [show szR (some (f, t)) = .tuple #[.int .i64 f, .int .i64 t, .bool true] from rfl]
      (try (refine st_EQ9_1 ?_; intros))
      refine w_callF Tryd.func32 ?_ (hs := sizes_any hf _ _ _ (hra _))
      rintro v m H1 ⟨rfl, rfl, rfl⟩
      rw [hs, show szP (some (f, t)) = .tuple #[.int .i64 f, .int .i64 t, .int .i64 0] from rfl]
      (try (refine st_EQ9_1 ?_; intros))
      exact q_fin0 (H0 := H) (Gives.mk (congrArg Value.bool (dcd_true rfl))) (hd := zpk)
  · (try (refine st_EQ9_1 ?_; intros))
    exact q_fin0 (H0 := H2) (Gives.mk rfl) (hd := zpk)
theorem lawPlain_any {pa : Option Addr} {ca : Nat} {l : List Stp} (hfw : FitW l) (w0 : World) (m : Mem) (H : SHeap) (hra : ∀ Hp, RowR w0 m Hp 3 pa (l.map Stp.cs)) :
    Does Tryd.prog 11 #[.slice pa l.length ca] w0 m H (Gives (.bool true) m H) := by
  refine Does.of_body (args := [.slice pa l.length ca]) Tryd.func11 rfl Tryd.ntmps11 rfl ?_
  (try (refine st_EQ9_1 ?_; intros))
  refine w_callF Tryd.func30 ?_ (hs := refW_any hfw _ _ _ hra)
  rintro v m H2 ⟨rfl, (⟨hsm, c1, p1, rfl, rfl⟩ | ⟨hsm, rfl, rfl⟩)⟩
  · have hf := hfw.fit hsm
    have hla := hf.len
    (try (refine st_EQ9_1 ?_; intros))
    refine w_callF Tryd.func31 ?_ (hs := refSizes_any hf _ _ _ (RowR.row (a := c1) zhs))
    rintro v m H1 ⟨rfl, rfl, rfl⟩
    cases hs : sizesOf l with
    | none =>
      rw [show szR none = .tuple #[.int .i64 0, .int .i64 0, .bool false] from rfl]
      (try (refine st_EQ9_1 ?_; intros))
      refine w_callF Tryd.func33 ?_ (hs := ePlain_any hf _ _ _ (hra _))
      rintro v m H1 ⟨rfl, (⟨hs2, rfl, rfl⟩ | ⟨f, t, c, cp, hs2, rfl, rfl⟩)⟩
      · (try (refine st_EQ9_1 ?_; intros))
        exact q_fin0 (H0 := H) (Gives.mk rfl) (hd := zpk)
      · rw [hs] at hs2; cases hs2
    | some ft =>
      obtain ⟨f, t⟩ := ft
      have hfp := fit_plain hs
      have hlp := hfp.len
      have hmlp : ((plainOf l).map Stp.cs).length = (plainOf l).length := List.length_map _
      rw [show szR (some (f, t)) = .tuple #[.int .i64 f, .int .i64 t, .bool true] from rfl]
      (try (refine st_EQ9_1 ?_; intros))
      refine w_callF Tryd.func33 ?_ (hs := ePlain_any hf _ _ _ (hra _))
      rintro v m H1 ⟨rfl, (⟨hs2, rfl, rfl⟩ | ⟨f2, t2, c2, p2, hs2, rfl, rfl⟩)⟩
      · rw [hs] at hs2; cases hs2
      · (try (refine st_EQ9_1 ?_; intros))
        refine w_callF Tryd.func35 ?_ (hs := say_any hf hs _ _ _ (RowR.row (a := c1) zhs))
        rintro _ m _ ⟨rfl, q2, q4, q6, rfl, rfl⟩
        (try (refine st_EQ9_1 ?_; intros))
        obtain ⟨la1, la2⟩ := said_len (gapsOf l)
        refine w_callF Tryd.func34 ?_ (hs := rPlain_any la1 la2 (said_small hs) _ _ _)
        rintro v m H1 ⟨rfl, c3, p3, rfl, rfl⟩
        rw [plain_said]
        (try (refine st_EQ9_1 ?_; intros))
        refine w_callF Tryd.func9 ?_ (hs := same_any (l := plainOf l) (by omega) _ _ _ (RowR.row (a := c2) zhs) (RowR.row (a := c3) zhs))
        rintro v m H1 ⟨rfl, rfl, rfl⟩
        (try (refine st_EQ9_1 ?_; intros))
        refine WL.heap (H' := .row c2 p2 39 3 ((plainOf l).map Stp.cs) :: .row c3 p3 55 3 ((plainOf l).map Stp.cs) :: .row c1 p1 55 3 (l.map Stp.cs) :: H) zpk ?_
        refine w_callF Tryd.func36 ?_ (hs := own_any (es := (plainOf l).map Stp.cs) hmlp.symm (by omega) _ _ _)
        rintro v m H1 ⟨rfl, rfl, rfl⟩
        (try (refine st_EQ9_1 ?_; intros))
        refine w_callF Tryd.func33 ?_ (hs := ePlain_any hf _ _ _ (hra _))
        rintro v m H1 ⟨rfl, (⟨hs3, rfl, rfl⟩ | ⟨f3, t3, c4, p4, hs3, rfl, rfl⟩)⟩
        · rw [hs] at hs3; cases hs3
        · (try (refine st_EQ9_1 ?_; intros))
          refine w_callF Tryd.func9 ?_ (hs := same_any (l := plainOf l) (by omega) _ _ _ (RowR.row (a := c4) zhs) (RowR.row (a := c3) zhs))
          rintro v m H1 ⟨rfl, rfl, rfl⟩
          (try (refine st_EQ9_1 ?_; intros))
          refine w_callF Tryd.func9 ?_ (hs := same_any (l := l) (by omega) _ _ _ (hra _) (RowR.row (a := c1) zhs))
          rintro v m H1 ⟨rfl, rfl, rfl⟩
          (try (refine st_EQ9_1 ?_; intros))
          exact q_fin0 (H0 := H) (Gives.mk rfl) (hd := zpk)
  · (try (refine st_EQ9_1 ?_; intros))
    exact q_fin0 (H0 := H2) (Gives.mk rfl) (hd := zpk)
theorem lawPrints_any {pa : Option Addr} {ca : Nat} {l : List Stp} (hfw : FitW l) {w0 : World} {m : Mem} {H : SHeap} (hra : ∀ Hp, RowR w0 m Hp 3 pa (l.map Stp.cs)) (hg : GTabs Tryd.prog m) :
    Does Tryd.prog 12 #[.slice pa l.length ca] w0 m H (Gives (.bool true) m H) := by
  refine Does.of_body (args := [.slice pa l.length ca]) Tryd.func12 rfl Tryd.ntmps12 rfl ?_
  (try (refine st_EQ9_1 ?_; intros))
  refine w_callF Tryd.func30 ?_ (hs := refW_any hfw _ _ _ hra)
  rintro v m H2 ⟨rfl, (⟨hsm, c1, p1, rfl, rfl⟩ | ⟨hsm, rfl, rfl⟩)⟩
  · have hf := hfw.fit hsm
    have hla := hf.len
    (try (refine st_EQ9_1 ?_; intros))
    refine w_callF Tryd.func31 ?_ (hs := refSizes_any hf _ _ _ (RowR.row (a := c1) zhs))
    rintro v m H1 ⟨rfl, rfl, rfl⟩
    cases hs : sizesOf l with
    | none =>
      rw [show szR none = .tuple #[.int .i64 0, .int .i64 0, .bool false] from rfl]
      (try (refine st_EQ9_1 ?_; intros))
      refine w_callF Tryd.func37 ?_ (hs := ePrintBad_any hf hs _ _ _ (hra _))
      rintro v m H1 ⟨rfl, rfl, rfl⟩
      (try (refine st_EQ9_1 ?_; intros))
      exact q_fin0 (H0 := H) (Gives.mk rfl) (hd := zpk)
    | some ft =>
      obtain ⟨f, t⟩ := ft
      obtain ⟨hpl, hl5⟩ := small_print hsm hs
      obtain ⟨e, hrp⟩ := read_print hs hl5
      obtain ⟨hok, _⟩ := sizesOf_some hs
      have hm : (maxT : Int) = 65536 := rfl
      have hin := fun (x : Stp) (hx : x ∈ l) => stpW_in hx
      rw [show szR (some (f, t)) = .tuple #[.int .i64 f, .int .i64 t, .bool true] from rfl]
      (try (refine st_EQ9_1 ?_; intros))
      refine w_callF Tryd.func37 ?_ (hs := ePrint_any hf (by omega) (hra _) hg)
      rintro v m H1 ⟨rfl, rfl, rfl⟩
      rw [hs]
      have hpp : printW l = printW l := rfl
      (try (refine st_EQ9_1 ?_; intros))
      refine w_callF Tryd.func38 ?_ (hs := refPrint_any (l := l) (fun x hx => ⟨(hok x hx).1, by have := (hok x hx).2; omega, (sizes_each hs hx).1, (sizes_each hs hx).2⟩) (by omega) _ _ _ (RowR.row (a := c1) zhs))
      rintro v m H1 ⟨rfl, rfl, rfl⟩
      (try (refine st_EQ9_1 ?_; intros))
      refine w_callF Tryd.func8 ?_ (hs := eRead_any (printW l) (by omega) hg)
      rintro v m H1 ⟨rfl, (⟨e2, l2, c2, p2, hR, rfl, rfl⟩ | ⟨w, hR, rfl, rfl⟩)⟩
      · rw [hrp] at hR
        cases hR
        (refine st_EQ9_1 ?_; intros; rename_i bs)
        refine w_callF Tryd.func9 ?_ (hs := same_any (l := l) (by omega) _ _ _ (RowR.row (a := c2) zhs) (RowR.row (a := c1) zhs))
        rintro v m H1 ⟨rfl, rfl, rfl⟩
        (try (refine st_EQ9_1 ?_; intros))
        exact q_fin0 (H0 := H) (Gives.mk rfl) (hd := zpk)
      · rw [hrp] at hR; cases hR
  · (try (refine st_EQ9_1 ?_; intros))
    exact q_fin0 (H0 := H2) (Gives.mk rfl) (hd := zpk)
theorem sq_EQ9_2 {G : Prop} (h : G := by (repeat (first | (refine sp ?_; (repeat intro zzc)) | (refine iF 6 rfl ?_; refine w_callG Tryd.func6 ?_ (hs := live_any _ _ _)) | (refine iF 10 rfl ?_; refine w_callG Tryd.func10 ?_ (hs := lawSizes_any (by assumption) _ _ _ (by assumption))) | (refine iF 11 rfl ?_; refine w_callG Tryd.func11 ?_ (hs := lawPlain_any (by assumption) _ _ _ (by assumption))) | (refine iF 12 rfl ?_; refine w_callG Tryd.func12 ?_ (hs := lawPrints_any (by assumption) (by assumption) (by assumption))))); exact WQ.q1 rfl) : G := h
theorem st_EQ9_2 {G G' : Prop} (next : G') (h : Bx G' → G := by intro zzn; (first | ((refine st ?_; (repeat intro zzc)); (try ((first | (refine iF 6 rfl ?_; refine w_callG Tryd.func6 ?_ (hs := live_any _ _ _)) | (refine iF 10 rfl ?_; refine w_callG Tryd.func10 ?_ (hs := lawSizes_any (by assumption) _ _ _ (by assumption))) | (refine iF 11 rfl ?_; refine w_callG Tryd.func11 ?_ (hs := lawPlain_any (by assumption) _ _ _ (by assumption))) | (refine iF 12 rfl ?_; refine w_callG Tryd.func12 ?_ (hs := lawPrints_any (by assumption) (by assumption) (by assumption))) | ((refine iDraw ?_; (first | refine WC.drawAll rfl (by decide +kernel) ?_ | refine WC.draw 1 rfl (by decide +kernel) ?_ | refine WC.draw 2 rfl (by decide +kernel) ?_ | refine WC.draw 3 rfl (by decide +kernel) ?_ | refine WC.draw 4 rfl (by decide +kernel) ?_ | refine WC.draw 5 rfl (by decide +kernel) ?_ | refine WC.draw 6 rfl (by decide +kernel) ?_ | refine WC.draw 7 rfl (by decide +kernel) ?_ | refine WC.draw 8 rfl (by decide +kernel) ?_ | refine WC.draw 9 rfl (by decide +kernel) ?_ | refine WC.draw 10 rfl (by decide +kernel) ?_ | refine WC.draw 11 rfl (by decide +kernel) ?_ | refine WC.draw 12 rfl (by decide +kernel) ?_ | refine WC.draw 13 rfl (by decide +kernel) ?_ | refine WC.draw 14 rfl (by decide +kernel) ?_ | refine WC.draw 15 rfl (by decide +kernel) ?_ | refine WC.draw 16 rfl (by decide +kernel) ?_ | refine WC.draw 17 rfl (by decide +kernel) ?_ | refine WC.draw 18 rfl (by decide +kernel) ?_ | refine WC.draw 19 rfl (by decide +kernel) ?_ | refine WC.draw 20 rfl (by decide +kernel) ?_ | refine WC.draw 21 rfl (by decide +kernel) ?_ | refine WC.draw 22 rfl (by decide +kernel) ?_ | refine WC.draw 23 rfl (by decide +kernel) ?_ | refine WC.draw 24 rfl (by decide +kernel) ?_)); (repeat (refine WD.cons rfl (fun c h => by cases h) sq_EQ9_2 ?_)); refine WD.nil ?_)); (try (refine st ?_; (repeat intro zzc)))))) | ((first | (refine iF 6 rfl ?_; refine w_callG Tryd.func6 ?_ (hs := live_any _ _ _)) | (refine iF 10 rfl ?_; refine w_callG Tryd.func10 ?_ (hs := lawSizes_any (by assumption) _ _ _ (by assumption))) | (refine iF 11 rfl ?_; refine w_callG Tryd.func11 ?_ (hs := lawPlain_any (by assumption) _ _ _ (by assumption))) | (refine iF 12 rfl ?_; refine w_callG Tryd.func12 ?_ (hs := lawPrints_any (by assumption) (by assumption) (by assumption))) | ((refine iDraw ?_; (first | refine WC.drawAll rfl (by decide +kernel) ?_ | refine WC.draw 1 rfl (by decide +kernel) ?_ | refine WC.draw 2 rfl (by decide +kernel) ?_ | refine WC.draw 3 rfl (by decide +kernel) ?_ | refine WC.draw 4 rfl (by decide +kernel) ?_ | refine WC.draw 5 rfl (by decide +kernel) ?_ | refine WC.draw 6 rfl (by decide +kernel) ?_ | refine WC.draw 7 rfl (by decide +kernel) ?_ | refine WC.draw 8 rfl (by decide +kernel) ?_ | refine WC.draw 9 rfl (by decide +kernel) ?_ | refine WC.draw 10 rfl (by decide +kernel) ?_ | refine WC.draw 11 rfl (by decide +kernel) ?_ | refine WC.draw 12 rfl (by decide +kernel) ?_ | refine WC.draw 13 rfl (by decide +kernel) ?_ | refine WC.draw 14 rfl (by decide +kernel) ?_ | refine WC.draw 15 rfl (by decide +kernel) ?_ | refine WC.draw 16 rfl (by decide +kernel) ?_ | refine WC.draw 17 rfl (by decide +kernel) ?_ | refine WC.draw 18 rfl (by decide +kernel) ?_ | refine WC.draw 19 rfl (by decide +kernel) ?_ | refine WC.draw 20 rfl (by decide +kernel) ?_ | refine WC.draw 21 rfl (by decide +kernel) ?_ | refine WC.draw 22 rfl (by decide +kernel) ?_ | refine WC.draw 23 rfl (by decide +kernel) ?_ | refine WC.draw 24 rfl (by decide +kernel) ?_)); (repeat (refine WD.cons rfl (fun c h => by cases h) sq_EQ9_2 ?_)); refine WD.nil ?_)); (try (refine st ?_; (repeat intro zzc))))); (repeat ((first | (refine iF 6 rfl ?_; refine w_callG Tryd.func6 ?_ (hs := live_any _ _ _)) | (refine iF 10 rfl ?_; refine w_callG Tryd.func10 ?_ (hs := lawSizes_any (by assumption) _ _ _ (by assumption))) | (refine iF 11 rfl ?_; refine w_callG Tryd.func11 ?_ (hs := lawPlain_any (by assumption) _ _ _ (by assumption))) | (refine iF 12 rfl ?_; refine w_callG Tryd.func12 ?_ (hs := lawPrints_any (by assumption) (by assumption) (by assumption))) | ((refine iDraw ?_; (first | refine WC.drawAll rfl (by decide +kernel) ?_ | refine WC.draw 1 rfl (by decide +kernel) ?_ | refine WC.draw 2 rfl (by decide +kernel) ?_ | refine WC.draw 3 rfl (by decide +kernel) ?_ | refine WC.draw 4 rfl (by decide +kernel) ?_ | refine WC.draw 5 rfl (by decide +kernel) ?_ | refine WC.draw 6 rfl (by decide +kernel) ?_ | refine WC.draw 7 rfl (by decide +kernel) ?_ | refine WC.draw 8 rfl (by decide +kernel) ?_ | refine WC.draw 9 rfl (by decide +kernel) ?_ | refine WC.draw 10 rfl (by decide +kernel) ?_ | refine WC.draw 11 rfl (by decide +kernel) ?_ | refine WC.draw 12 rfl (by decide +kernel) ?_ | refine WC.draw 13 rfl (by decide +kernel) ?_ | refine WC.draw 14 rfl (by decide +kernel) ?_ | refine WC.draw 15 rfl (by decide +kernel) ?_ | refine WC.draw 16 rfl (by decide +kernel) ?_ | refine WC.draw 17 rfl (by decide +kernel) ?_ | refine WC.draw 18 rfl (by decide +kernel) ?_ | refine WC.draw 19 rfl (by decide +kernel) ?_ | refine WC.draw 20 rfl (by decide +kernel) ?_ | refine WC.draw 21 rfl (by decide +kernel) ?_ | refine WC.draw 22 rfl (by decide +kernel) ?_ | refine WC.draw 23 rfl (by decide +kernel) ?_ | refine WC.draw 24 rfl (by decide +kernel) ?_)); (repeat (refine WD.cons rfl (fun c h => by cases h) sq_EQ9_2 ?_)); refine WD.nil ?_)); (try (refine st ?_; (repeat intro zzc))))); (repeat revert zzc); exact zzn.out) : G := h ⟨next⟩
theorem editPlain_any {pa : Option Addr} {ca : Nat} {l : List Stp} (hf : FitW l) {w0 : World} {m : Mem} {H : SHeap} (hra : ∀ Hp, RowR w0 m Hp 3 pa (l.map Stp.cs)) (hg : GTabs Tryd.prog m) :
    Does Tryd.prog 4 #[.slice pa l.length ca] w0 m H (Gives (.bool true) m H) := by
  refine Does.of_body (args := [.slice pa l.length ca]) Tryd.func4 rfl Tryd.ntmps4 rfl ?_
  (try (refine st_EQ9_2 ?_; intros))
  exact q_fin0 (H0 := H) (Gives.mk rfl) (hd := zpk)
end Go.Proofs.YtelgegefmjlimaaDoor

