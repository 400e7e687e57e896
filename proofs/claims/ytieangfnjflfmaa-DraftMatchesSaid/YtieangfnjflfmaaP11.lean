/-
  Parts of a walk, joined: E11 E17a EQP D40 EngAR D41 D33a D42. No condition.
-/
import Derived.Test.YtieangfnjflfmaaP4
import Derived.Test.YtieangfnjflfmaaP10
import Derived.Test.YtieangfnjflfmaaP8
import Derived.Test.YtieangfnjflfmaaP7
import Derived.Test.YtieangfnjflfmaaP9
set_option linter.all false
/-
  The walk of the reference's Say: a change place by place. No condition.
-/
namespace Go.Eng
open Go
def sV (s : List UInt8) : List Value := [str s]
def oV (b : Bool) : List Value := [.bool b]
def uV (b : UInt8) : List Value := [.int .u8 (b.toNat : Int)]
theorem pads_len {N : Nat} {g : Gs} (h : atOf g ≤ N) : ((putsPad N g).map sV).length = N + 1 ∧ ((dropsPad N g).map oV).length = N ∧ ((bytesPad N g).map uV).length = N := by
  have h1 : gapAt g ≤ atOf g := by unfold atOf; omega
  have hl := (flat_lens g.done).2
  refine ⟨?_, ?_, ?_⟩
  · rw [List.length_map, putsPad, pad_length]
    rw [List.length_append, List.length_singleton, hl]
    unfold gapAt at h1; omega
  · rw [List.length_map, dropsPad, pad_length]; rw [dropsOf_len]; exact h
  · rw [List.length_map, bytesPad, pad_length]; rw [bytesOf_len]; exact h
theorem pads_start (N : Nat) : (putsPad N Gs.start).map sV = List.replicate (N + 1) [str []] ∧ (dropsPad N Gs.start).map oV = List.replicate N [.bool false] ∧ (bytesPad N Gs.start).map uV = List.replicate N [.int .u8 0] := by
  refine ⟨?_, ?_, ?_⟩
  · simp [putsPad, pad, Gs.start, sV, List.replicate_succ]
  · simp [dropsPad, pad, Gs.start, oV, dropsOf]
  · simp [bytesPad, pad, Gs.start, uV, bytesOf]
theorem put_nil (g : Gs) : g.put [] = g := by cases g; simp [Gs.put]
def Gs.drops (g : Gs) (s : List UInt8) : Gs := ⟨g.done, ⟨g.cur.p, g.cur.d ++ s⟩⟩
theorem drops_nil (g : Gs) : g.drops [] = g := by cases g; simp [Gs.drops]
theorem drops_snoc (g : Gs) (s : List UInt8) (b : UInt8) : g.drops (s ++ [b]) = (g.drops s).byte b := by simp [Gs.drops, Gs.byte]
theorem drops_at (g : Gs) (s : List UInt8) : atOf (g.drops s) = atOf g + s.length ∧ gapAt (g.drops s) = gapAt g := by
  simp [atOf, gapAt, Gs.drops]; omega
theorem put_at (g : Gs) (s : List UInt8) : atOf (g.put s) = atOf g ∧ gapAt (g.put s) = gapAt g := ⟨rfl, rfl⟩
theorem step_parts {g : Gs} {x : Stp} (h : stpOk x) : g.step x = if 0 < x.k then ((g.put x.p).drops x.d).keeps x.k.toNat else (g.put x.p).drops x.d := by
  obtain ⟨k, d, p⟩ := x
  rcases h with ⟨h1, h2, h3⟩ | ⟨h1, h2, h3⟩ | ⟨h1, h2, h3⟩
  · simp only at h1 h2 h3
    subst h2; subst h3
    simp only [h1, if_true, put_nil, drops_nil]
    simp [Gs.step, h1, Gs.keeps]
  · simp only at h1 h2 h3
    subst h1; subst h3
    simp [Gs.step, h2, put_nil, Gs.drops]
  · simp only at h1 h2 h3
    subst h1; subst h2
    simp [Gs.step, drops_nil, Gs.put]
theorem gb_at {l : List UInt8} {k : Nat} (h : k < l.length) : gb l k = (l[k]).toNat := by unfold gb; rw [List.getD_eq_getElem?_getD, List.getElem?_eq_getElem h]; rfl
theorem toA_le : ∀ l : List Atm, toA l ≤ l.length
  | [] => Nat.le_refl _
  | .k :: l => by have := toA_le l; simp only [toA, List.length_cons]; omega
  | .d _ :: l => by have := toA_le l; simp only [toA, List.length_cons]; omega
  | .p _ :: l => by have := toA_le l; simp only [toA, List.length_cons]; omega
theorem cur_len {l : List Stp} (h : ∀ s ∈ l, stpOk s) (i : Nat) : (gapsOf (l.take i)).cur.p.length ≤ (atomsOf l).length := by
  have h1 := (nf_sizes (l.take i) (fun s hs => h s (List.mem_of_mem_take hs))).2
  have h2 := toA_le (atomsOf (l.take i))
  have h3 : (gapsOf (l.take i)).cur.p.length ≤ toA (nfOf (gapsOf (l.take i))) := by
    unfold nfOf gapA; rw [toA_append, toA_append, toA_p]; omega
  have e : atomsOf l = atomsOf (l.take i) ++ atomsOf (l.drop i) := by rw [← atoms_append, List.take_append_drop]
  rw [e, List.length_append]; omega
theorem gaps_next {l : List Stp} {i : Nat} {x : Stp} (h : l.take (i + 1) = l.take i ++ [x]) : gapsOf (l.take (i + 1)) = (gapsOf (l.take i)).step x := by
  rw [h, gapsOf, List.foldl_append]; rfl
end Go.Eng
namespace Go.Proofs.Ytieangfnjflfmaa
open Go Go.Eng
set_option maxRecDepth 100000
set_option maxHeartbeats 4000000
set_option linter.all false
attribute [local irreducible] WL WC WQ QFun QLoop Does Q1 QRound QAssign Go.Addr.add
attribute [local irreducible] sizesF sizesOf putsPad dropsPad bytesPad Gs.put Gs.drops Gs.keeps Gs.byte atOf gapAt
theorem sq_E11_1 {G : Prop} (h : G := by (repeat (first | (refine sp ?_; (repeat intro zzc)) | (refine iF 53 rfl ?_; refine w_callG Try.func53 ?_ (hs := refSizes_any (by assumption) _ _ _ (by repeat (first | assumption | apply RowR.more)))))); exact WQ.q1 rfl) : G := h
theorem cm_E11_1 {G G' : Prop} (next : G') (h : Bx G' → G := by intro zzn; (try (refine wcal 0 ?_ (hwl := by intro zm zF zle; exact sq_E11_1))); (try (refine wcal 1 ?_ (hwl := by intro zm zF zle; exact sq_E11_1))); (try (refine wcal 2 ?_ (hwl := by intro zm zF zle; exact sq_E11_1))); (try (refine wcal 3 ?_ (hwl := by intro zm zF zle; exact sq_E11_1))); (try (refine wcal 4 ?_ (hwl := by intro zm zF zle; exact sq_E11_1))); (try (refine wcal 5 ?_ (hwl := by intro zm zF zle; exact sq_E11_1))); (try (refine wcal 6 ?_ (hwl := by intro zm zF zle; exact sq_E11_1))); (try (refine wcal 7 ?_ (hwl := by intro zm zF zle; exact sq_E11_1))); (try (refine wcal 8 ?_ (hwl := by intro zm zF zle; exact sq_E11_1))); (try (refine wcal 9 ?_ (hwl := by intro zm zF zle; exact sq_E11_1))); (try (refine wcal 10 ?_ (hwl := by intro zm zF zle; exact sq_E11_1))); (try (refine wcal 11 ?_ (hwl := by intro zm zF zle; exact sq_E11_1))); (try (refine wcal 12 ?_ (hwl := by intro zm zF zle; exact sq_E11_1))); (try (refine wcal 13 ?_ (hwl := by intro zm zF zle; exact sq_E11_1))); (try (refine wcal 14 ?_ (hwl := by intro zm zF zle; exact sq_E11_1))); (try (refine wcal 15 ?_ (hwl := by intro zm zF zle; exact sq_E11_1))); (try (refine wcal 16 ?_ (hwl := by intro zm zF zle; exact sq_E11_1))); (try (refine wcal 17 ?_ (hwl := by intro zm zF zle; exact sq_E11_1))); (try (refine wcal 18 ?_ (hwl := by intro zm zF zle; exact sq_E11_1))); (try (refine wcal 19 ?_ (hwl := by intro zm zF zle; exact sq_E11_1))); (try (refine wcal 20 ?_ (hwl := by intro zm zF zle; exact sq_E11_1))); (try (refine wcal 21 ?_ (hwl := by intro zm zF zle; exact sq_E11_1))); (try (refine wcal 22 ?_ (hwl := by intro zm zF zle; exact sq_E11_1))); (try (refine wcal 23 ?_ (hwl := by intro zm zF zle; exact sq_E11_1))); (try (refine wcal 24 ?_ (hwl := by intro zm zF zle; exact sq_E11_1))); (try (refine wcal 25 ?_ (hwl := by intro zm zF zle; exact sq_E11_1))); (try (refine wcal 26 ?_ (hwl := by intro zm zF zle; exact sq_E11_1))); (try (refine wcal 27 ?_ (hwl := by intro zm zF zle; exact sq_E11_1))); (try (refine wcal 28 ?_ (hwl := by intro zm zF zle; exact sq_E11_1))); (try (refine wcal 29 ?_ (hwl := by intro zm zF zle; exact sq_E11_1))); (try (refine wcal 30 ?_ (hwl := by intro zm zF zle; exact sq_E11_1))); (try (refine wcal 31 ?_ (hwl := by intro zm zF zle; exact sq_E11_1))); (try (refine wcal 32 ?_ (hwl := by intro zm zF zle; exact sq_E11_1))); (try (refine wcal 33 ?_ (hwl := by intro zm zF zle; exact sq_E11_1))); (try (refine wcal 34 ?_ (hwl := by intro zm zF zle; exact sq_E11_1))); (try (refine wcal 35 ?_ (hwl := by intro zm zF zle; exact sq_E11_1))); (try (refine wcal 36 ?_ (hwl := by intro zm zF zle; exact sq_E11_1))); (try (refine wcal 37 ?_ (hwl := by intro zm zF zle; exact sq_E11_1))); (try (refine wcal 38 ?_ (hwl := by intro zm zF zle; exact sq_E11_1))); (try (refine wcal 39 ?_ (hwl := by intro zm zF zle; exact sq_E11_1))); (try (refine wcal 40 ?_ (hwl := by intro zm zF zle; exact sq_E11_1))); (try (refine wcal 41 ?_ (hwl := by intro zm zF zle; exact sq_E11_1))); exact zzn.out) : G := h ⟨next⟩
theorem st_E11_1 {G G' : Prop} (next : G') (h : Bx G' → G := by intro zzn; (first | ((refine st ?_; (repeat intro zzc)); (try ((first | (refine iF 53 rfl ?_; refine w_callG Try.func53 ?_ (hs := refSizes_any (by assumption) _ _ _ (by repeat (first | assumption | apply RowR.more)))) | ((refine iDraw ?_; (first | refine WC.drawAll rfl (by decide +kernel) ?_ | refine WC.draw 1 rfl (by decide +kernel) ?_ | refine WC.draw 2 rfl (by decide +kernel) ?_ | refine WC.draw 3 rfl (by decide +kernel) ?_ | refine WC.draw 4 rfl (by decide +kernel) ?_ | refine WC.draw 5 rfl (by decide +kernel) ?_ | refine WC.draw 6 rfl (by decide +kernel) ?_ | refine WC.draw 7 rfl (by decide +kernel) ?_ | refine WC.draw 8 rfl (by decide +kernel) ?_ | refine WC.draw 9 rfl (by decide +kernel) ?_ | refine WC.draw 10 rfl (by decide +kernel) ?_ | refine WC.draw 11 rfl (by decide +kernel) ?_ | refine WC.draw 12 rfl (by decide +kernel) ?_ | refine WC.draw 13 rfl (by decide +kernel) ?_ | refine WC.draw 14 rfl (by decide +kernel) ?_ | refine WC.draw 15 rfl (by decide +kernel) ?_ | refine WC.draw 16 rfl (by decide +kernel) ?_ | refine WC.draw 17 rfl (by decide +kernel) ?_ | refine WC.draw 18 rfl (by decide +kernel) ?_ | refine WC.draw 19 rfl (by decide +kernel) ?_ | refine WC.draw 20 rfl (by decide +kernel) ?_ | refine WC.draw 21 rfl (by decide +kernel) ?_ | refine WC.draw 22 rfl (by decide +kernel) ?_ | refine WC.draw 23 rfl (by decide +kernel) ?_ | refine WC.draw 24 rfl (by decide +kernel) ?_)); (repeat (refine WD.cons rfl (fun c h => by cases h) sq_E11_1 ?_)); refine WD.nil ?_)); (try (refine st ?_; (repeat intro zzc)))))) | ((first | (refine iF 53 rfl ?_; refine w_callG Try.func53 ?_ (hs := refSizes_any (by assumption) _ _ _ (by repeat (first | assumption | apply RowR.more)))) | ((refine iDraw ?_; (first | refine WC.drawAll rfl (by decide +kernel) ?_ | refine WC.draw 1 rfl (by decide +kernel) ?_ | refine WC.draw 2 rfl (by decide +kernel) ?_ | refine WC.draw 3 rfl (by decide +kernel) ?_ | refine WC.draw 4 rfl (by decide +kernel) ?_ | refine WC.draw 5 rfl (by decide +kernel) ?_ | refine WC.draw 6 rfl (by decide +kernel) ?_ | refine WC.draw 7 rfl (by decide +kernel) ?_ | refine WC.draw 8 rfl (by decide +kernel) ?_ | refine WC.draw 9 rfl (by decide +kernel) ?_ | refine WC.draw 10 rfl (by decide +kernel) ?_ | refine WC.draw 11 rfl (by decide +kernel) ?_ | refine WC.draw 12 rfl (by decide +kernel) ?_ | refine WC.draw 13 rfl (by decide +kernel) ?_ | refine WC.draw 14 rfl (by decide +kernel) ?_ | refine WC.draw 15 rfl (by decide +kernel) ?_ | refine WC.draw 16 rfl (by decide +kernel) ?_ | refine WC.draw 17 rfl (by decide +kernel) ?_ | refine WC.draw 18 rfl (by decide +kernel) ?_ | refine WC.draw 19 rfl (by decide +kernel) ?_ | refine WC.draw 20 rfl (by decide +kernel) ?_ | refine WC.draw 21 rfl (by decide +kernel) ?_ | refine WC.draw 22 rfl (by decide +kernel) ?_ | refine WC.draw 23 rfl (by decide +kernel) ?_ | refine WC.draw 24 rfl (by decide +kernel) ?_)); (repeat (refine WD.cons rfl (fun c h => by cases h) sq_E11_1 ?_)); refine WD.nil ?_)); (try (refine st ?_; (repeat intro zzc))))); (repeat ((first | (refine iF 53 rfl ?_; refine w_callG Try.func53 ?_ (hs := refSizes_any (by assumption) _ _ _ (by repeat (first | assumption | apply RowR.more)))) | ((refine iDraw ?_; (first | refine WC.drawAll rfl (by decide +kernel) ?_ | refine WC.draw 1 rfl (by decide +kernel) ?_ | refine WC.draw 2 rfl (by decide +kernel) ?_ | refine WC.draw 3 rfl (by decide +kernel) ?_ | refine WC.draw 4 rfl (by decide +kernel) ?_ | refine WC.draw 5 rfl (by decide +kernel) ?_ | refine WC.draw 6 rfl (by decide +kernel) ?_ | refine WC.draw 7 rfl (by decide +kernel) ?_ | refine WC.draw 8 rfl (by decide +kernel) ?_ | refine WC.draw 9 rfl (by decide +kernel) ?_ | refine WC.draw 10 rfl (by decide +kernel) ?_ | refine WC.draw 11 rfl (by decide +kernel) ?_ | refine WC.draw 12 rfl (by decide +kernel) ?_ | refine WC.draw 13 rfl (by decide +kernel) ?_ | refine WC.draw 14 rfl (by decide +kernel) ?_ | refine WC.draw 15 rfl (by decide +kernel) ?_ | refine WC.draw 16 rfl (by decide +kernel) ?_ | refine WC.draw 17 rfl (by decide +kernel) ?_ | refine WC.draw 18 rfl (by decide +kernel) ?_ | refine WC.draw 19 rfl (by decide +kernel) ?_ | refine WC.draw 20 rfl (by decide +kernel) ?_ | refine WC.draw 21 rfl (by decide +kernel) ?_ | refine WC.draw 22 rfl (by decide +kernel) ?_ | refine WC.draw 23 rfl (by decide +kernel) ?_ | refine WC.draw 24 rfl (by decide +kernel) ?_)); (repeat (refine WD.cons rfl (fun c h => by cases h) sq_E11_1 ?_)); refine WD.nil ?_)); (try (refine st ?_; (repeat intro zzc))))); (repeat revert zzc); exact zzn.out) : G := h ⟨next⟩
theorem say_any {a : Option Addr} {cap : Nat} {l : List Stp} {f t : Int} (hf : Fit l) (hs : sizesOf l = some (f, t)) (w0 : World) (m : Mem) (H : SHeap) (hr : RowR w0 m H 3 a (l.map Stp.cs)) :
    Does Try.prog 37 #[.slice a l.length cap] w0 m H (fun v m' H' => m' = m ∧ ∃ q2 q4 q6, v = .agg #[.slice (some ⟨q2, 0, none⟩) (putsOf (gapsOf l)).length (putsOf (gapsOf l)).length, .slice (some ⟨q4, 0, none⟩) (dropsOf (gapsOf l)).length (dropsOf (gapsOf l)).length, .slice (some ⟨q6, 0, none⟩) (bytesOf (gapsOf l)).length (bytesOf (gapsOf l)).length] ∧
      H' = .row (some ⟨q2, 0, none⟩) (putsOf (gapsOf l)).length 9 1 ((putsOf (gapsOf l)).map sV) :: .row (some ⟨q4, 0, none⟩) (dropsOf (gapsOf l)).length 4 1 ((dropsOf (gapsOf l)).map oV) :: .row (some ⟨q6, 0, none⟩) (bytesOf (gapsOf l)).length 5 1 ((bytesOf (gapsOf l)).map uV) :: H) := by
  refine Does.of_body (args := [.slice a l.length cap]) Try.func37 rfl Try.ntmps37 rfl ?_
  have hln : (l.map Stp.cs).length = l.length := by simp
  have hlen := hf.len
  have e2 : szR (sizesOf l) = .tuple #[.int .i64 f, .int .i64 t, .bool true] := by rw [hs]; rfl
  obtain ⟨hok, hal, hpl, hfr, _, g1, g2, _, _⟩ := sized hs
  obtain ⟨N, rfl⟩ : ∃ N : Nat, f = (N : Int) := ⟨f.toNat, by omega⟩
  (refine st_E11_1 ?_; intros; rename_i r0)
  rw [e2]
  (try (refine st_E11_1 ?_; intros))
  refine WC.join (fun r' ds' m' H' => ∃ q2 q4 q6 b, r' = [(6, .pointer (some ⟨b, 0, none⟩)), (2, .pointer (some ⟨r0, 0, none⟩)), (0, .slice a l.length cap)] ∧ ds' = [] ∧ m = m' ∧ H' = .blk b (.cells [.slice (some ⟨q2, 0, none⟩) (N + 1) (N + 1), .slice (some ⟨q4, 0, none⟩) N N, .slice (some ⟨q6, 0, none⟩) N N].toArray 86 (0, 0)) :: .blk r0 (.cells [.slice none 0 0, .slice none 0 0, .slice none 0 0].toArray 86 (0, 0)) :: .row (some ⟨q2, 0, none⟩) (N + 1) 9 1 (List.replicate (N + 1) [str []]) :: .row (some ⟨q4, 0, none⟩) N 4 1 (List.replicate N [.bool false]) :: .row (some ⟨q6, 0, none⟩) N 5 1 (List.replicate N [.int .u8 0]) :: H) ?_ ?_
  · refine WC.drawE 9 ([]) (.blk r0 (.cells [.slice none 0 0, .slice none 0 0, .slice none 0 0].toArray 86 (0, 0)) :: H) rfl (by decide +kernel) zpk ?_
    (refine cm_E11_1 ?_)
    refine WE.acts [2, 4, 6, 8] (by decide +kernel) (all_cons ?_ (all_cons ?_ (all_cons ?_ (all_cons ?_ (all_nil)))))
    · refine Acts.mk rfl rfl (fun c h => by cases h) ?_
      refine WL.makeRow (k:=N + 1) (sz:=1) (by':=16) (zs:=[str []]) rfl rfl (by omega) (by omega) rfl rfl rfl rfl rfl rfl (by decide) (by omega) (by omega) rfl ?_; intro q2; refine WL.nil ?_
      refine WQ.acted (B := [.row (some ⟨q2, 0, none⟩) (N + 1) 9 1 (List.replicate (N + 1) [str []])]) (U := .blk r0 (.cells [.slice none 0 0, .slice none 0 0, .slice none 0 0].toArray 86 (0, 0)) :: H) rfl (Mem.le.refl _) zpk ?_
      refine WE.acts [4, 6, 8] (by decide +kernel) (all_cons ?_ (all_cons ?_ (all_cons ?_ (all_nil))))
      · refine Acts.mk rfl rfl (fun c h => by cases h) ?_
        refine WL.makeRow (k:=N) (sz:=1) (by':=1) (zs:=[.bool false]) rfl rfl rfl rfl rfl rfl rfl rfl rfl rfl (by decide) (by omega) (by omega) rfl ?_; intro q4; refine WL.nil ?_
        refine WQ.acted (B := [.row (some ⟨q4, 0, none⟩) N 4 1 (List.replicate N [.bool false])]) (U := .blk r0 (.cells [.slice none 0 0, .slice none 0 0, .slice none 0 0].toArray 86 (0, 0)) :: H) rfl (Mem.le.refl _) zpk ?_
        refine WE.acts [6, 8] (by decide +kernel) (all_cons ?_ (all_cons ?_ (all_nil)))
        · refine Acts.mk rfl rfl (fun c h => by cases h) ?_
          refine WL.makeRow (k:=N) (sz:=1) (by':=1) (zs:=[.int .u8 0]) rfl rfl rfl rfl rfl rfl rfl rfl rfl rfl (by decide) (by omega) (by omega) rfl ?_; intro q6; refine WL.nil ?_
          refine WQ.acted (B := [.row (some ⟨q6, 0, none⟩) N 5 1 (List.replicate N [.int .u8 0])]) (U := .blk r0 (.cells [.slice none 0 0, .slice none 0 0, .slice none 0 0].toArray 86 (0, 0)) :: H) rfl (Mem.le.refl _) zpk ?_
          (refine WE.calm 7 (by decide +kernel) rfl rfl (by decide +kernel) rfl (fun c h => by cases h) (by intro zm zF zle; exact sq_E11_1) ?_)
          refine WE.acts [8] (by decide +kernel) (all_cons ?_ (all_nil))
          · refine Acts.mk rfl rfl (fun c h => by cases h) ?_
            refine WL.alloc (cs := [.slice none 0 0, .slice none 0 0, .slice none 0 0]) rfl rfl rfl ?_; intro b; refine WL.nil ?_
            refine WQ.acted (B := [.blk b (.cells [.slice none 0 0, .slice none 0 0, .slice none 0 0].toArray 86 (0, 0))]) (U := .blk r0 (.cells [.slice none 0 0, .slice none 0 0, .slice none 0 0].toArray 86 (0, 0)) :: H) rfl (Mem.le.refl _) zpk ?_
            refine WE.done (by decide +kernel) ?_
            (try (refine st_E11_1 ?_; intros))
            exact WQ.join ⟨q2, q4, q6, b, rfl, rfl, rfl, rfl⟩ zsb zpk
        · refine Acts.mk rfl rfl (fun c h => by cases h) ?_
          refine WL.alloc (cs := [.slice none 0 0, .slice none 0 0, .slice none 0 0]) rfl rfl rfl ?_; intro b; refine WL.nil ?_
          refine WQ.acted (B := [.blk b (.cells [.slice none 0 0, .slice none 0 0, .slice none 0 0].toArray 86 (0, 0))]) (U := .blk r0 (.cells [.slice none 0 0, .slice none 0 0, .slice none 0 0].toArray 86 (0, 0)) :: H) rfl (Mem.le.refl _) zpk ?_
          refine WE.acts [6] (by decide +kernel) (all_cons ?_ (all_nil))
          · refine Acts.mk rfl rfl (fun c h => by cases h) ?_
            refine WL.makeRow (k:=N) (sz:=1) (by':=1) (zs:=[.int .u8 0]) rfl rfl rfl rfl rfl rfl rfl rfl rfl rfl (by decide) (by omega) (by omega) rfl ?_; intro q6; refine WL.nil ?_
            refine WQ.acted (B := [.row (some ⟨q6, 0, none⟩) N 5 1 (List.replicate N [.int .u8 0])]) (U := .blk r0 (.cells [.slice none 0 0, .slice none 0 0, .slice none 0 0].toArray 86 (0, 0)) :: H) rfl (Mem.le.refl _) zpk ?_
            (refine WE.calm 7 (by decide +kernel) rfl rfl (by decide +kernel) rfl (fun c h => by cases h) (by intro zm zF zle; exact sq_E11_1) ?_)
            refine WE.done (by decide +kernel) ?_
            (try (refine st_E11_1 ?_; intros))
            exact WQ.join ⟨q2, q4, q6, b, rfl, rfl, rfl, rfl⟩ zsb zpk
      · refine Acts.mk rfl rfl (fun c h => by cases h) ?_
        refine WL.makeRow (k:=N) (sz:=1) (by':=1) (zs:=[.int .u8 0]) rfl rfl rfl rfl rfl rfl rfl rfl rfl rfl (by decide) (by omega) (by omega) rfl ?_; intro q6; refine WL.nil ?_
        refine WQ.acted (B := [.row (some ⟨q6, 0, none⟩) N 5 1 (List.replicate N [.int .u8 0])]) (U := .blk r0 (.cells [.slice none 0 0, .slice none 0 0, .slice none 0 0].toArray 86 (0, 0)) :: H) rfl (Mem.le.refl _) zpk ?_
        refine WE.acts [4, 8] (by decide +kernel) (all_cons ?_ (all_cons ?_ (all_nil)))
        · refine Acts.mk rfl rfl (fun c h => by cases h) ?_
          refine WL.makeRow (k:=N) (sz:=1) (by':=1) (zs:=[.bool false]) rfl rfl rfl rfl rfl rfl rfl rfl rfl rfl (by decide) (by omega) (by omega) rfl ?_; intro q4; refine WL.nil ?_
          refine WQ.acted (B := [.row (some ⟨q4, 0, none⟩) N 4 1 (List.replicate N [.bool false])]) (U := .blk r0 (.cells [.slice none 0 0, .slice none 0 0, .slice none 0 0].toArray 86 (0, 0)) :: H) rfl (Mem.le.refl _) zpk ?_
          (refine WE.calm 7 (by decide +kernel) rfl rfl (by decide +kernel) rfl (fun c h => by cases h) (by intro zm zF zle; exact sq_E11_1) ?_)
          refine WE.acts [8] (by decide +kernel) (all_cons ?_ (all_nil))
          · refine Acts.mk rfl rfl (fun c h => by cases h) ?_
            refine WL.alloc (cs := [.slice none 0 0, .slice none 0 0, .slice none 0 0]) rfl rfl rfl ?_; intro b; refine WL.nil ?_
            refine WQ.acted (B := [.blk b (.cells [.slice none 0 0, .slice none 0 0, .slice none 0 0].toArray 86 (0, 0))]) (U := .blk r0 (.cells [.slice none 0 0, .slice none 0 0, .slice none 0 0].toArray 86 (0, 0)) :: H) rfl (Mem.le.refl _) zpk ?_
            refine WE.done (by decide +kernel) ?_
            (try (refine st_E11_1 ?_; intros))
            exact WQ.join ⟨q2, q4, q6, b, rfl, rfl, rfl, rfl⟩ zsb zpk
        · refine Acts.mk rfl rfl (fun c h => by cases h) ?_
          refine WL.alloc (cs := [.slice none 0 0, .slice none 0 0, .slice none 0 0]) rfl rfl rfl ?_; intro b; refine WL.nil ?_
          refine WQ.acted (B := [.blk b (.cells [.slice none 0 0, .slice none 0 0, .slice none 0 0].toArray 86 (0, 0))]) (U := .blk r0 (.cells [.slice none 0 0, .slice none 0 0, .slice none 0 0].toArray 86 (0, 0)) :: H) rfl (Mem.le.refl _) zpk ?_
          refine WE.acts [4] (by decide +kernel) (all_cons ?_ (all_nil))
          · refine Acts.mk rfl rfl (fun c h => by cases h) ?_
            refine WL.makeRow (k:=N) (sz:=1) (by':=1) (zs:=[.bool false]) rfl rfl rfl rfl rfl rfl rfl rfl rfl rfl (by decide) (by omega) (by omega) rfl ?_; intro q4; refine WL.nil ?_
            refine WQ.acted (B := [.row (some ⟨q4, 0, none⟩) N 4 1 (List.replicate N [.bool false])]) (U := .blk r0 (.cells [.slice none 0 0, .slice none 0 0, .slice none 0 0].toArray 86 (0, 0)) :: H) rfl (Mem.le.refl _) zpk ?_
            (refine WE.calm 7 (by decide +kernel) rfl rfl (by decide +kernel) rfl (fun c h => by cases h) (by intro zm zF zle; exact sq_E11_1) ?_)
            refine WE.done (by decide +kernel) ?_
            (try (refine st_E11_1 ?_; intros))
            exact WQ.join ⟨q2, q4, q6, b, rfl, rfl, rfl, rfl⟩ zsb zpk
      · refine Acts.mk rfl rfl (fun c h => by cases h) ?_
        refine WL.alloc (cs := [.slice none 0 0, .slice none 0 0, .slice none 0 0]) rfl rfl rfl ?_; intro b; refine WL.nil ?_
        refine WQ.acted (B := [.blk b (.cells [.slice none 0 0, .slice none 0 0, .slice none 0 0].toArray 86 (0, 0))]) (U := .blk r0 (.cells [.slice none 0 0, .slice none 0 0, .slice none 0 0].toArray 86 (0, 0)) :: H) rfl (Mem.le.refl _) zpk ?_
        refine WE.acts [4, 6] (by decide +kernel) (all_cons ?_ (all_cons ?_ (all_nil)))
        · refine Acts.mk rfl rfl (fun c h => by cases h) ?_
          refine WL.makeRow (k:=N) (sz:=1) (by':=1) (zs:=[.bool false]) rfl rfl rfl rfl rfl rfl rfl rfl rfl rfl (by decide) (by omega) (by omega) rfl ?_; intro q4; refine WL.nil ?_
          refine WQ.acted (B := [.row (some ⟨q4, 0, none⟩) N 4 1 (List.replicate N [.bool false])]) (U := .blk r0 (.cells [.slice none 0 0, .slice none 0 0, .slice none 0 0].toArray 86 (0, 0)) :: H) rfl (Mem.le.refl _) zpk ?_
          refine WE.acts [6] (by decide +kernel) (all_cons ?_ (all_nil))
          · refine Acts.mk rfl rfl (fun c h => by cases h) ?_
            refine WL.makeRow (k:=N) (sz:=1) (by':=1) (zs:=[.int .u8 0]) rfl rfl rfl rfl rfl rfl rfl rfl rfl rfl (by decide) (by omega) (by omega) rfl ?_; intro q6; refine WL.nil ?_
            refine WQ.acted (B := [.row (some ⟨q6, 0, none⟩) N 5 1 (List.replicate N [.int .u8 0])]) (U := .blk r0 (.cells [.slice none 0 0, .slice none 0 0, .slice none 0 0].toArray 86 (0, 0)) :: H) rfl (Mem.le.refl _) zpk ?_
            (refine WE.calm 7 (by decide +kernel) rfl rfl (by decide +kernel) rfl (fun c h => by cases h) (by intro zm zF zle; exact sq_E11_1) ?_)
            refine WE.done (by decide +kernel) ?_
            (try (refine st_E11_1 ?_; intros))
            exact WQ.join ⟨q2, q4, q6, b, rfl, rfl, rfl, rfl⟩ zsb zpk
        · refine Acts.mk rfl rfl (fun c h => by cases h) ?_
          refine WL.makeRow (k:=N) (sz:=1) (by':=1) (zs:=[.int .u8 0]) rfl rfl rfl rfl rfl rfl rfl rfl rfl rfl (by decide) (by omega) (by omega) rfl ?_; intro q6; refine WL.nil ?_
          refine WQ.acted (B := [.row (some ⟨q6, 0, none⟩) N 5 1 (List.replicate N [.int .u8 0])]) (U := .blk r0 (.cells [.slice none 0 0, .slice none 0 0, .slice none 0 0].toArray 86 (0, 0)) :: H) rfl (Mem.le.refl _) zpk ?_
          refine WE.acts [4] (by decide +kernel) (all_cons ?_ (all_nil))
          · refine Acts.mk rfl rfl (fun c h => by cases h) ?_
            refine WL.makeRow (k:=N) (sz:=1) (by':=1) (zs:=[.bool false]) rfl rfl rfl rfl rfl rfl rfl rfl rfl rfl (by decide) (by omega) (by omega) rfl ?_; intro q4; refine WL.nil ?_
            refine WQ.acted (B := [.row (some ⟨q4, 0, none⟩) N 4 1 (List.replicate N [.bool false])]) (U := .blk r0 (.cells [.slice none 0 0, .slice none 0 0, .slice none 0 0].toArray 86 (0, 0)) :: H) rfl (Mem.le.refl _) zpk ?_
            (refine WE.calm 7 (by decide +kernel) rfl rfl (by decide +kernel) rfl (fun c h => by cases h) (by intro zm zF zle; exact sq_E11_1) ?_)
            refine WE.done (by decide +kernel) ?_
            (try (refine st_E11_1 ?_; intros))
            exact WQ.join ⟨q2, q4, q6, b, rfl, rfl, rfl, rfl⟩ zsb zpk
    · refine Acts.mk rfl rfl (fun c h => by cases h) ?_
      refine WL.makeRow (k:=N) (sz:=1) (by':=1) (zs:=[.bool false]) rfl rfl rfl rfl rfl rfl rfl rfl rfl rfl (by decide) (by omega) (by omega) rfl ?_; intro q4; refine WL.nil ?_
      refine WQ.acted (B := [.row (some ⟨q4, 0, none⟩) N 4 1 (List.replicate N [.bool false])]) (U := .blk r0 (.cells [.slice none 0 0, .slice none 0 0, .slice none 0 0].toArray 86 (0, 0)) :: H) rfl (Mem.le.refl _) zpk ?_
      refine WE.acts [2, 6, 8] (by decide +kernel) (all_cons ?_ (all_cons ?_ (all_cons ?_ (all_nil))))
      · refine Acts.mk rfl rfl (fun c h => by cases h) ?_
        refine WL.makeRow (k:=N + 1) (sz:=1) (by':=16) (zs:=[str []]) rfl rfl (by omega) (by omega) rfl rfl rfl rfl rfl rfl (by decide) (by omega) (by omega) rfl ?_; intro q2; refine WL.nil ?_
        refine WQ.acted (B := [.row (some ⟨q2, 0, none⟩) (N + 1) 9 1 (List.replicate (N + 1) [str []])]) (U := .blk r0 (.cells [.slice none 0 0, .slice none 0 0, .slice none 0 0].toArray 86 (0, 0)) :: H) rfl (Mem.le.refl _) zpk ?_
        refine WE.acts [6, 8] (by decide +kernel) (all_cons ?_ (all_cons ?_ (all_nil)))
        · refine Acts.mk rfl rfl (fun c h => by cases h) ?_
          refine WL.makeRow (k:=N) (sz:=1) (by':=1) (zs:=[.int .u8 0]) rfl rfl rfl rfl rfl rfl rfl rfl rfl rfl (by decide) (by omega) (by omega) rfl ?_; intro q6; refine WL.nil ?_
          refine WQ.acted (B := [.row (some ⟨q6, 0, none⟩) N 5 1 (List.replicate N [.int .u8 0])]) (U := .blk r0 (.cells [.slice none 0 0, .slice none 0 0, .slice none 0 0].toArray 86 (0, 0)) :: H) rfl (Mem.le.refl _) zpk ?_
          (refine WE.calm 7 (by decide +kernel) rfl rfl (by decide +kernel) rfl (fun c h => by cases h) (by intro zm zF zle; exact sq_E11_1) ?_)
          refine WE.acts [8] (by decide +kernel) (all_cons ?_ (all_nil))
          · refine Acts.mk rfl rfl (fun c h => by cases h) ?_
            refine WL.alloc (cs := [.slice none 0 0, .slice none 0 0, .slice none 0 0]) rfl rfl rfl ?_; intro b; refine WL.nil ?_
            refine WQ.acted (B := [.blk b (.cells [.slice none 0 0, .slice none 0 0, .slice none 0 0].toArray 86 (0, 0))]) (U := .blk r0 (.cells [.slice none 0 0, .slice none 0 0, .slice none 0 0].toArray 86 (0, 0)) :: H) rfl (Mem.le.refl _) zpk ?_
            refine WE.done (by decide +kernel) ?_
            (try (refine st_E11_1 ?_; intros))
            exact WQ.join ⟨q2, q4, q6, b, rfl, rfl, rfl, rfl⟩ zsb zpk
        · refine Acts.mk rfl rfl (fun c h => by cases h) ?_
          refine WL.alloc (cs := [.slice none 0 0, .slice none 0 0, .slice none 0 0]) rfl rfl rfl ?_; intro b; refine WL.nil ?_
          refine WQ.acted (B := [.blk b (.cells [.slice none 0 0, .slice none 0 0, .slice none 0 0].toArray 86 (0, 0))]) (U := .blk r0 (.cells [.slice none 0 0, .slice none 0 0, .slice none 0 0].toArray 86 (0, 0)) :: H) rfl (Mem.le.refl _) zpk ?_
          refine WE.acts [6] (by decide +kernel) (all_cons ?_ (all_nil))
          · refine Acts.mk rfl rfl (fun c h => by cases h) ?_
            refine WL.makeRow (k:=N) (sz:=1) (by':=1) (zs:=[.int .u8 0]) rfl rfl rfl rfl rfl rfl rfl rfl rfl rfl (by decide) (by omega) (by omega) rfl ?_; intro q6; refine WL.nil ?_
            refine WQ.acted (B := [.row (some ⟨q6, 0, none⟩) N 5 1 (List.replicate N [.int .u8 0])]) (U := .blk r0 (.cells [.slice none 0 0, .slice none 0 0, .slice none 0 0].toArray 86 (0, 0)) :: H) rfl (Mem.le.refl _) zpk ?_
            (refine WE.calm 7 (by decide +kernel) rfl rfl (by decide +kernel) rfl (fun c h => by cases h) (by intro zm zF zle; exact sq_E11_1) ?_)
            refine WE.done (by decide +kernel) ?_
            (try (refine st_E11_1 ?_; intros))
            exact WQ.join ⟨q2, q4, q6, b, rfl, rfl, rfl, rfl⟩ zsb zpk
      · refine Acts.mk rfl rfl (fun c h => by cases h) ?_
        refine WL.makeRow (k:=N) (sz:=1) (by':=1) (zs:=[.int .u8 0]) rfl rfl rfl rfl rfl rfl rfl rfl rfl rfl (by decide) (by omega) (by omega) rfl ?_; intro q6; refine WL.nil ?_
        refine WQ.acted (B := [.row (some ⟨q6, 0, none⟩) N 5 1 (List.replicate N [.int .u8 0])]) (U := .blk r0 (.cells [.slice none 0 0, .slice none 0 0, .slice none 0 0].toArray 86 (0, 0)) :: H) rfl (Mem.le.refl _) zpk ?_
        refine WE.acts [2, 8] (by decide +kernel) (all_cons ?_ (all_cons ?_ (all_nil)))
        · refine Acts.mk rfl rfl (fun c h => by cases h) ?_
          refine WL.makeRow (k:=N + 1) (sz:=1) (by':=16) (zs:=[str []]) rfl rfl (by omega) (by omega) rfl rfl rfl rfl rfl rfl (by decide) (by omega) (by omega) rfl ?_; intro q2; refine WL.nil ?_
          refine WQ.acted (B := [.row (some ⟨q2, 0, none⟩) (N + 1) 9 1 (List.replicate (N + 1) [str []])]) (U := .blk r0 (.cells [.slice none 0 0, .slice none 0 0, .slice none 0 0].toArray 86 (0, 0)) :: H) rfl (Mem.le.refl _) zpk ?_
          (refine WE.calm 7 (by decide +kernel) rfl rfl (by decide +kernel) rfl (fun c h => by cases h) (by intro zm zF zle; exact sq_E11_1) ?_)
          refine WE.acts [8] (by decide +kernel) (all_cons ?_ (all_nil))
          · refine Acts.mk rfl rfl (fun c h => by cases h) ?_
            refine WL.alloc (cs := [.slice none 0 0, .slice none 0 0, .slice none 0 0]) rfl rfl rfl ?_; intro b; refine WL.nil ?_
            refine WQ.acted (B := [.blk b (.cells [.slice none 0 0, .slice none 0 0, .slice none 0 0].toArray 86 (0, 0))]) (U := .blk r0 (.cells [.slice none 0 0, .slice none 0 0, .slice none 0 0].toArray 86 (0, 0)) :: H) rfl (Mem.le.refl _) zpk ?_
            refine WE.done (by decide +kernel) ?_
            (try (refine st_E11_1 ?_; intros))
            exact WQ.join ⟨q2, q4, q6, b, rfl, rfl, rfl, rfl⟩ zsb zpk
        · refine Acts.mk rfl rfl (fun c h => by cases h) ?_
          refine WL.alloc (cs := [.slice none 0 0, .slice none 0 0, .slice none 0 0]) rfl rfl rfl ?_; intro b; refine WL.nil ?_
          refine WQ.acted (B := [.blk b (.cells [.slice none 0 0, .slice none 0 0, .slice none 0 0].toArray 86 (0, 0))]) (U := .blk r0 (.cells [.slice none 0 0, .slice none 0 0, .slice none 0 0].toArray 86 (0, 0)) :: H) rfl (Mem.le.refl _) zpk ?_
          refine WE.acts [2] (by decide +kernel) (all_cons ?_ (all_nil))
          · refine Acts.mk rfl rfl (fun c h => by cases h) ?_
            refine WL.makeRow (k:=N + 1) (sz:=1) (by':=16) (zs:=[str []]) rfl rfl (by omega) (by omega) rfl rfl rfl rfl rfl rfl (by decide) (by omega) (by omega) rfl ?_; intro q2; refine WL.nil ?_
            refine WQ.acted (B := [.row (some ⟨q2, 0, none⟩) (N + 1) 9 1 (List.replicate (N + 1) [str []])]) (U := .blk r0 (.cells [.slice none 0 0, .slice none 0 0, .slice none 0 0].toArray 86 (0, 0)) :: H) rfl (Mem.le.refl _) zpk ?_
            (refine WE.calm 7 (by decide +kernel) rfl rfl (by decide +kernel) rfl (fun c h => by cases h) (by intro zm zF zle; exact sq_E11_1) ?_)
            refine WE.done (by decide +kernel) ?_
            (try (refine st_E11_1 ?_; intros))
            exact WQ.join ⟨q2, q4, q6, b, rfl, rfl, rfl, rfl⟩ zsb zpk
      · refine Acts.mk rfl rfl (fun c h => by cases h) ?_
        refine WL.alloc (cs := [.slice none 0 0, .slice none 0 0, .slice none 0 0]) rfl rfl rfl ?_; intro b; refine WL.nil ?_
        refine WQ.acted (B := [.blk b (.cells [.slice none 0 0, .slice none 0 0, .slice none 0 0].toArray 86 (0, 0))]) (U := .blk r0 (.cells [.slice none 0 0, .slice none 0 0, .slice none 0 0].toArray 86 (0, 0)) :: H) rfl (Mem.le.refl _) zpk ?_
        refine WE.acts [2, 6] (by decide +kernel) (all_cons ?_ (all_cons ?_ (all_nil)))
        · refine Acts.mk rfl rfl (fun c h => by cases h) ?_
          refine WL.makeRow (k:=N + 1) (sz:=1) (by':=16) (zs:=[str []]) rfl rfl (by omega) (by omega) rfl rfl rfl rfl rfl rfl (by decide) (by omega) (by omega) rfl ?_; intro q2; refine WL.nil ?_
          refine WQ.acted (B := [.row (some ⟨q2, 0, none⟩) (N + 1) 9 1 (List.replicate (N + 1) [str []])]) (U := .blk r0 (.cells [.slice none 0 0, .slice none 0 0, .slice none 0 0].toArray 86 (0, 0)) :: H) rfl (Mem.le.refl _) zpk ?_
          refine WE.acts [6] (by decide +kernel) (all_cons ?_ (all_nil))
          · refine Acts.mk rfl rfl (fun c h => by cases h) ?_
            refine WL.makeRow (k:=N) (sz:=1) (by':=1) (zs:=[.int .u8 0]) rfl rfl rfl rfl rfl rfl rfl rfl rfl rfl (by decide) (by omega) (by omega) rfl ?_; intro q6; refine WL.nil ?_
            refine WQ.acted (B := [.row (some ⟨q6, 0, none⟩) N 5 1 (List.replicate N [.int .u8 0])]) (U := .blk r0 (.cells [.slice none 0 0, .slice none 0 0, .slice none 0 0].toArray 86 (0, 0)) :: H) rfl (Mem.le.refl _) zpk ?_
            (refine WE.calm 7 (by decide +kernel) rfl rfl (by decide +kernel) rfl (fun c h => by cases h) (by intro zm zF zle; exact sq_E11_1) ?_)
            refine WE.done (by decide +kernel) ?_
            (try (refine st_E11_1 ?_; intros))
            exact WQ.join ⟨q2, q4, q6, b, rfl, rfl, rfl, rfl⟩ zsb zpk
        · refine Acts.mk rfl rfl (fun c h => by cases h) ?_
          refine WL.makeRow (k:=N) (sz:=1) (by':=1) (zs:=[.int .u8 0]) rfl rfl rfl rfl rfl rfl rfl rfl rfl rfl (by decide) (by omega) (by omega) rfl ?_; intro q6; refine WL.nil ?_
          refine WQ.acted (B := [.row (some ⟨q6, 0, none⟩) N 5 1 (List.replicate N [.int .u8 0])]) (U := .blk r0 (.cells [.slice none 0 0, .slice none 0 0, .slice none 0 0].toArray 86 (0, 0)) :: H) rfl (Mem.le.refl _) zpk ?_
          refine WE.acts [2] (by decide +kernel) (all_cons ?_ (all_nil))
          · refine Acts.mk rfl rfl (fun c h => by cases h) ?_
            refine WL.makeRow (k:=N + 1) (sz:=1) (by':=16) (zs:=[str []]) rfl rfl (by omega) (by omega) rfl rfl rfl rfl rfl rfl (by decide) (by omega) (by omega) rfl ?_; intro q2; refine WL.nil ?_
            refine WQ.acted (B := [.row (some ⟨q2, 0, none⟩) (N + 1) 9 1 (List.replicate (N + 1) [str []])]) (U := .blk r0 (.cells [.slice none 0 0, .slice none 0 0, .slice none 0 0].toArray 86 (0, 0)) :: H) rfl (Mem.le.refl _) zpk ?_
            (refine WE.calm 7 (by decide +kernel) rfl rfl (by decide +kernel) rfl (fun c h => by cases h) (by intro zm zF zle; exact sq_E11_1) ?_)
            refine WE.done (by decide +kernel) ?_
            (try (refine st_E11_1 ?_; intros))
            exact WQ.join ⟨q2, q4, q6, b, rfl, rfl, rfl, rfl⟩ zsb zpk
    · refine Acts.mk rfl rfl (fun c h => by cases h) ?_
      refine WL.makeRow (k:=N) (sz:=1) (by':=1) (zs:=[.int .u8 0]) rfl rfl rfl rfl rfl rfl rfl rfl rfl rfl (by decide) (by omega) (by omega) rfl ?_; intro q6; refine WL.nil ?_
      refine WQ.acted (B := [.row (some ⟨q6, 0, none⟩) N 5 1 (List.replicate N [.int .u8 0])]) (U := .blk r0 (.cells [.slice none 0 0, .slice none 0 0, .slice none 0 0].toArray 86 (0, 0)) :: H) rfl (Mem.le.refl _) zpk ?_
      refine WE.acts [2, 4, 8] (by decide +kernel) (all_cons ?_ (all_cons ?_ (all_cons ?_ (all_nil))))
      · refine Acts.mk rfl rfl (fun c h => by cases h) ?_
        refine WL.makeRow (k:=N + 1) (sz:=1) (by':=16) (zs:=[str []]) rfl rfl (by omega) (by omega) rfl rfl rfl rfl rfl rfl (by decide) (by omega) (by omega) rfl ?_; intro q2; refine WL.nil ?_
        refine WQ.acted (B := [.row (some ⟨q2, 0, none⟩) (N + 1) 9 1 (List.replicate (N + 1) [str []])]) (U := .blk r0 (.cells [.slice none 0 0, .slice none 0 0, .slice none 0 0].toArray 86 (0, 0)) :: H) rfl (Mem.le.refl _) zpk ?_
        refine WE.acts [4, 8] (by decide +kernel) (all_cons ?_ (all_cons ?_ (all_nil)))
        · refine Acts.mk rfl rfl (fun c h => by cases h) ?_
          refine WL.makeRow (k:=N) (sz:=1) (by':=1) (zs:=[.bool false]) rfl rfl rfl rfl rfl rfl rfl rfl rfl rfl (by decide) (by omega) (by omega) rfl ?_; intro q4; refine WL.nil ?_
          refine WQ.acted (B := [.row (some ⟨q4, 0, none⟩) N 4 1 (List.replicate N [.bool false])]) (U := .blk r0 (.cells [.slice none 0 0, .slice none 0 0, .slice none 0 0].toArray 86 (0, 0)) :: H) rfl (Mem.le.refl _) zpk ?_
          (refine WE.calm 7 (by decide +kernel) rfl rfl (by decide +kernel) rfl (fun c h => by cases h) (by intro zm zF zle; exact sq_E11_1) ?_)
          refine WE.acts [8] (by decide +kernel) (all_cons ?_ (all_nil))
          · refine Acts.mk rfl rfl (fun c h => by cases h) ?_
            refine WL.alloc (cs := [.slice none 0 0, .slice none 0 0, .slice none 0 0]) rfl rfl rfl ?_; intro b; refine WL.nil ?_
            refine WQ.acted (B := [.blk b (.cells [.slice none 0 0, .slice none 0 0, .slice none 0 0].toArray 86 (0, 0))]) (U := .blk r0 (.cells [.slice none 0 0, .slice none 0 0, .slice none 0 0].toArray 86 (0, 0)) :: H) rfl (Mem.le.refl _) zpk ?_
            refine WE.done (by decide +kernel) ?_
            (try (refine st_E11_1 ?_; intros))
            exact WQ.join ⟨q2, q4, q6, b, rfl, rfl, rfl, rfl⟩ zsb zpk
        · refine Acts.mk rfl rfl (fun c h => by cases h) ?_
          refine WL.alloc (cs := [.slice none 0 0, .slice none 0 0, .slice none 0 0]) rfl rfl rfl ?_; intro b; refine WL.nil ?_
          refine WQ.acted (B := [.blk b (.cells [.slice none 0 0, .slice none 0 0, .slice none 0 0].toArray 86 (0, 0))]) (U := .blk r0 (.cells [.slice none 0 0, .slice none 0 0, .slice none 0 0].toArray 86 (0, 0)) :: H) rfl (Mem.le.refl _) zpk ?_
          refine WE.acts [4] (by decide +kernel) (all_cons ?_ (all_nil))
          · refine Acts.mk rfl rfl (fun c h => by cases h) ?_
            refine WL.makeRow (k:=N) (sz:=1) (by':=1) (zs:=[.bool false]) rfl rfl rfl rfl rfl rfl rfl rfl rfl rfl (by decide) (by omega) (by omega) rfl ?_; intro q4; refine WL.nil ?_
            refine WQ.acted (B := [.row (some ⟨q4, 0, none⟩) N 4 1 (List.replicate N [.bool false])]) (U := .blk r0 (.cells [.slice none 0 0, .slice none 0 0, .slice none 0 0].toArray 86 (0, 0)) :: H) rfl (Mem.le.refl _) zpk ?_
            (refine WE.calm 7 (by decide +kernel) rfl rfl (by decide +kernel) rfl (fun c h => by cases h) (by intro zm zF zle; exact sq_E11_1) ?_)
            refine WE.done (by decide +kernel) ?_
            (try (refine st_E11_1 ?_; intros))
            exact WQ.join ⟨q2, q4, q6, b, rfl, rfl, rfl, rfl⟩ zsb zpk
      · refine Acts.mk rfl rfl (fun c h => by cases h) ?_
        refine WL.makeRow (k:=N) (sz:=1) (by':=1) (zs:=[.bool false]) rfl rfl rfl rfl rfl rfl rfl rfl rfl rfl (by decide) (by omega) (by omega) rfl ?_; intro q4; refine WL.nil ?_
        refine WQ.acted (B := [.row (some ⟨q4, 0, none⟩) N 4 1 (List.replicate N [.bool false])]) (U := .blk r0 (.cells [.slice none 0 0, .slice none 0 0, .slice none 0 0].toArray 86 (0, 0)) :: H) rfl (Mem.le.refl _) zpk ?_
        refine WE.acts [2, 8] (by decide +kernel) (all_cons ?_ (all_cons ?_ (all_nil)))
        · refine Acts.mk rfl rfl (fun c h => by cases h) ?_
          refine WL.makeRow (k:=N + 1) (sz:=1) (by':=16) (zs:=[str []]) rfl rfl (by omega) (by omega) rfl rfl rfl rfl rfl rfl (by decide) (by omega) (by omega) rfl ?_; intro q2; refine WL.nil ?_
          refine WQ.acted (B := [.row (some ⟨q2, 0, none⟩) (N + 1) 9 1 (List.replicate (N + 1) [str []])]) (U := .blk r0 (.cells [.slice none 0 0, .slice none 0 0, .slice none 0 0].toArray 86 (0, 0)) :: H) rfl (Mem.le.refl _) zpk ?_
          (refine WE.calm 7 (by decide +kernel) rfl rfl (by decide +kernel) rfl (fun c h => by cases h) (by intro zm zF zle; exact sq_E11_1) ?_)
          refine WE.acts [8] (by decide +kernel) (all_cons ?_ (all_nil))
          · refine Acts.mk rfl rfl (fun c h => by cases h) ?_
            refine WL.alloc (cs := [.slice none 0 0, .slice none 0 0, .slice none 0 0]) rfl rfl rfl ?_; intro b; refine WL.nil ?_
            refine WQ.acted (B := [.blk b (.cells [.slice none 0 0, .slice none 0 0, .slice none 0 0].toArray 86 (0, 0))]) (U := .blk r0 (.cells [.slice none 0 0, .slice none 0 0, .slice none 0 0].toArray 86 (0, 0)) :: H) rfl (Mem.le.refl _) zpk ?_
            refine WE.done (by decide +kernel) ?_
            (try (refine st_E11_1 ?_; intros))
            exact WQ.join ⟨q2, q4, q6, b, rfl, rfl, rfl, rfl⟩ zsb zpk
        · refine Acts.mk rfl rfl (fun c h => by cases h) ?_
          refine WL.alloc (cs := [.slice none 0 0, .slice none 0 0, .slice none 0 0]) rfl rfl rfl ?_; intro b; refine WL.nil ?_
          refine WQ.acted (B := [.blk b (.cells [.slice none 0 0, .slice none 0 0, .slice none 0 0].toArray 86 (0, 0))]) (U := .blk r0 (.cells [.slice none 0 0, .slice none 0 0, .slice none 0 0].toArray 86 (0, 0)) :: H) rfl (Mem.le.refl _) zpk ?_
          refine WE.acts [2] (by decide +kernel) (all_cons ?_ (all_nil))
          · refine Acts.mk rfl rfl (fun c h => by cases h) ?_
            refine WL.makeRow (k:=N + 1) (sz:=1) (by':=16) (zs:=[str []]) rfl rfl (by omega) (by omega) rfl rfl rfl rfl rfl rfl (by decide) (by omega) (by omega) rfl ?_; intro q2; refine WL.nil ?_
            refine WQ.acted (B := [.row (some ⟨q2, 0, none⟩) (N + 1) 9 1 (List.replicate (N + 1) [str []])]) (U := .blk r0 (.cells [.slice none 0 0, .slice none 0 0, .slice none 0 0].toArray 86 (0, 0)) :: H) rfl (Mem.le.refl _) zpk ?_
            (refine WE.calm 7 (by decide +kernel) rfl rfl (by decide +kernel) rfl (fun c h => by cases h) (by intro zm zF zle; exact sq_E11_1) ?_)
            refine WE.done (by decide +kernel) ?_
            (try (refine st_E11_1 ?_; intros))
            exact WQ.join ⟨q2, q4, q6, b, rfl, rfl, rfl, rfl⟩ zsb zpk
      · refine Acts.mk rfl rfl (fun c h => by cases h) ?_
        refine WL.alloc (cs := [.slice none 0 0, .slice none 0 0, .slice none 0 0]) rfl rfl rfl ?_; intro b; refine WL.nil ?_
        refine WQ.acted (B := [.blk b (.cells [.slice none 0 0, .slice none 0 0, .slice none 0 0].toArray 86 (0, 0))]) (U := .blk r0 (.cells [.slice none 0 0, .slice none 0 0, .slice none 0 0].toArray 86 (0, 0)) :: H) rfl (Mem.le.refl _) zpk ?_
        refine WE.acts [2, 4] (by decide +kernel) (all_cons ?_ (all_cons ?_ (all_nil)))
        · refine Acts.mk rfl rfl (fun c h => by cases h) ?_
          refine WL.makeRow (k:=N + 1) (sz:=1) (by':=16) (zs:=[str []]) rfl rfl (by omega) (by omega) rfl rfl rfl rfl rfl rfl (by decide) (by omega) (by omega) rfl ?_; intro q2; refine WL.nil ?_
          refine WQ.acted (B := [.row (some ⟨q2, 0, none⟩) (N + 1) 9 1 (List.replicate (N + 1) [str []])]) (U := .blk r0 (.cells [.slice none 0 0, .slice none 0 0, .slice none 0 0].toArray 86 (0, 0)) :: H) rfl (Mem.le.refl _) zpk ?_
          refine WE.acts [4] (by decide +kernel) (all_cons ?_ (all_nil))
          · refine Acts.mk rfl rfl (fun c h => by cases h) ?_
            refine WL.makeRow (k:=N) (sz:=1) (by':=1) (zs:=[.bool false]) rfl rfl rfl rfl rfl rfl rfl rfl rfl rfl (by decide) (by omega) (by omega) rfl ?_; intro q4; refine WL.nil ?_
            refine WQ.acted (B := [.row (some ⟨q4, 0, none⟩) N 4 1 (List.replicate N [.bool false])]) (U := .blk r0 (.cells [.slice none 0 0, .slice none 0 0, .slice none 0 0].toArray 86 (0, 0)) :: H) rfl (Mem.le.refl _) zpk ?_
            (refine WE.calm 7 (by decide +kernel) rfl rfl (by decide +kernel) rfl (fun c h => by cases h) (by intro zm zF zle; exact sq_E11_1) ?_)
            refine WE.done (by decide +kernel) ?_
            (try (refine st_E11_1 ?_; intros))
            exact WQ.join ⟨q2, q4, q6, b, rfl, rfl, rfl, rfl⟩ zsb zpk
        · refine Acts.mk rfl rfl (fun c h => by cases h) ?_
          refine WL.makeRow (k:=N) (sz:=1) (by':=1) (zs:=[.bool false]) rfl rfl rfl rfl rfl rfl rfl rfl rfl rfl (by decide) (by omega) (by omega) rfl ?_; intro q4; refine WL.nil ?_
          refine WQ.acted (B := [.row (some ⟨q4, 0, none⟩) N 4 1 (List.replicate N [.bool false])]) (U := .blk r0 (.cells [.slice none 0 0, .slice none 0 0, .slice none 0 0].toArray 86 (0, 0)) :: H) rfl (Mem.le.refl _) zpk ?_
          refine WE.acts [2] (by decide +kernel) (all_cons ?_ (all_nil))
          · refine Acts.mk rfl rfl (fun c h => by cases h) ?_
            refine WL.makeRow (k:=N + 1) (sz:=1) (by':=16) (zs:=[str []]) rfl rfl (by omega) (by omega) rfl rfl rfl rfl rfl rfl (by decide) (by omega) (by omega) rfl ?_; intro q2; refine WL.nil ?_
            refine WQ.acted (B := [.row (some ⟨q2, 0, none⟩) (N + 1) 9 1 (List.replicate (N + 1) [str []])]) (U := .blk r0 (.cells [.slice none 0 0, .slice none 0 0, .slice none 0 0].toArray 86 (0, 0)) :: H) rfl (Mem.le.refl _) zpk ?_
            (refine WE.calm 7 (by decide +kernel) rfl rfl (by decide +kernel) rfl (fun c h => by cases h) (by intro zm zF zle; exact sq_E11_1) ?_)
            refine WE.done (by decide +kernel) ?_
            (try (refine st_E11_1 ?_; intros))
            exact WQ.join ⟨q2, q4, q6, b, rfl, rfl, rfl, rfl⟩ zsb zpk
    · refine Acts.mk rfl rfl (fun c h => by cases h) ?_
      refine WL.alloc (cs := [.slice none 0 0, .slice none 0 0, .slice none 0 0]) rfl rfl rfl ?_; intro b; refine WL.nil ?_
      refine WQ.acted (B := [.blk b (.cells [.slice none 0 0, .slice none 0 0, .slice none 0 0].toArray 86 (0, 0))]) (U := .blk r0 (.cells [.slice none 0 0, .slice none 0 0, .slice none 0 0].toArray 86 (0, 0)) :: H) rfl (Mem.le.refl _) zpk ?_
      refine WE.acts [2, 4, 6] (by decide +kernel) (all_cons ?_ (all_cons ?_ (all_cons ?_ (all_nil))))
      · refine Acts.mk rfl rfl (fun c h => by cases h) ?_
        refine WL.makeRow (k:=N + 1) (sz:=1) (by':=16) (zs:=[str []]) rfl rfl (by omega) (by omega) rfl rfl rfl rfl rfl rfl (by decide) (by omega) (by omega) rfl ?_; intro q2; refine WL.nil ?_
        refine WQ.acted (B := [.row (some ⟨q2, 0, none⟩) (N + 1) 9 1 (List.replicate (N + 1) [str []])]) (U := .blk r0 (.cells [.slice none 0 0, .slice none 0 0, .slice none 0 0].toArray 86 (0, 0)) :: H) rfl (Mem.le.refl _) zpk ?_
        refine WE.acts [4, 6] (by decide +kernel) (all_cons ?_ (all_cons ?_ (all_nil)))
        · refine Acts.mk rfl rfl (fun c h => by cases h) ?_
          refine WL.makeRow (k:=N) (sz:=1) (by':=1) (zs:=[.bool false]) rfl rfl rfl rfl rfl rfl rfl rfl rfl rfl (by decide) (by omega) (by omega) rfl ?_; intro q4; refine WL.nil ?_
          refine WQ.acted (B := [.row (some ⟨q4, 0, none⟩) N 4 1 (List.replicate N [.bool false])]) (U := .blk r0 (.cells [.slice none 0 0, .slice none 0 0, .slice none 0 0].toArray 86 (0, 0)) :: H) rfl (Mem.le.refl _) zpk ?_
          refine WE.acts [6] (by decide +kernel) (all_cons ?_ (all_nil))
          · refine Acts.mk rfl rfl (fun c h => by cases h) ?_
            refine WL.makeRow (k:=N) (sz:=1) (by':=1) (zs:=[.int .u8 0]) rfl rfl rfl rfl rfl rfl rfl rfl rfl rfl (by decide) (by omega) (by omega) rfl ?_; intro q6; refine WL.nil ?_
            refine WQ.acted (B := [.row (some ⟨q6, 0, none⟩) N 5 1 (List.replicate N [.int .u8 0])]) (U := .blk r0 (.cells [.slice none 0 0, .slice none 0 0, .slice none 0 0].toArray 86 (0, 0)) :: H) rfl (Mem.le.refl _) zpk ?_
            (refine WE.calm 7 (by decide +kernel) rfl rfl (by decide +kernel) rfl (fun c h => by cases h) (by intro zm zF zle; exact sq_E11_1) ?_)
            refine WE.done (by decide +kernel) ?_
            (try (refine st_E11_1 ?_; intros))
            exact WQ.join ⟨q2, q4, q6, b, rfl, rfl, rfl, rfl⟩ zsb zpk
        · refine Acts.mk rfl rfl (fun c h => by cases h) ?_
          refine WL.makeRow (k:=N) (sz:=1) (by':=1) (zs:=[.int .u8 0]) rfl rfl rfl rfl rfl rfl rfl rfl rfl rfl (by decide) (by omega) (by omega) rfl ?_; intro q6; refine WL.nil ?_
          refine WQ.acted (B := [.row (some ⟨q6, 0, none⟩) N 5 1 (List.replicate N [.int .u8 0])]) (U := .blk r0 (.cells [.slice none 0 0, .slice none 0 0, .slice none 0 0].toArray 86 (0, 0)) :: H) rfl (Mem.le.refl _) zpk ?_
          refine WE.acts [4] (by decide +kernel) (all_cons ?_ (all_nil))
          · refine Acts.mk rfl rfl (fun c h => by cases h) ?_
            refine WL.makeRow (k:=N) (sz:=1) (by':=1) (zs:=[.bool false]) rfl rfl rfl rfl rfl rfl rfl rfl rfl rfl (by decide) (by omega) (by omega) rfl ?_; intro q4; refine WL.nil ?_
            refine WQ.acted (B := [.row (some ⟨q4, 0, none⟩) N 4 1 (List.replicate N [.bool false])]) (U := .blk r0 (.cells [.slice none 0 0, .slice none 0 0, .slice none 0 0].toArray 86 (0, 0)) :: H) rfl (Mem.le.refl _) zpk ?_
            (refine WE.calm 7 (by decide +kernel) rfl rfl (by decide +kernel) rfl (fun c h => by cases h) (by intro zm zF zle; exact sq_E11_1) ?_)
            refine WE.done (by decide +kernel) ?_
            (try (refine st_E11_1 ?_; intros))
            exact WQ.join ⟨q2, q4, q6, b, rfl, rfl, rfl, rfl⟩ zsb zpk
      · refine Acts.mk rfl rfl (fun c h => by cases h) ?_
        refine WL.makeRow (k:=N) (sz:=1) (by':=1) (zs:=[.bool false]) rfl rfl rfl rfl rfl rfl rfl rfl rfl rfl (by decide) (by omega) (by omega) rfl ?_; intro q4; refine WL.nil ?_
        refine WQ.acted (B := [.row (some ⟨q4, 0, none⟩) N 4 1 (List.replicate N [.bool false])]) (U := .blk r0 (.cells [.slice none 0 0, .slice none 0 0, .slice none 0 0].toArray 86 (0, 0)) :: H) rfl (Mem.le.refl _) zpk ?_
        refine WE.acts [2, 6] (by decide +kernel) (all_cons ?_ (all_cons ?_ (all_nil)))
        · refine Acts.mk rfl rfl (fun c h => by cases h) ?_
          refine WL.makeRow (k:=N + 1) (sz:=1) (by':=16) (zs:=[str []]) rfl rfl (by omega) (by omega) rfl rfl rfl rfl rfl rfl (by decide) (by omega) (by omega) rfl ?_; intro q2; refine WL.nil ?_
          refine WQ.acted (B := [.row (some ⟨q2, 0, none⟩) (N + 1) 9 1 (List.replicate (N + 1) [str []])]) (U := .blk r0 (.cells [.slice none 0 0, .slice none 0 0, .slice none 0 0].toArray 86 (0, 0)) :: H) rfl (Mem.le.refl _) zpk ?_
          refine WE.acts [6] (by decide +kernel) (all_cons ?_ (all_nil))
          · refine Acts.mk rfl rfl (fun c h => by cases h) ?_
            refine WL.makeRow (k:=N) (sz:=1) (by':=1) (zs:=[.int .u8 0]) rfl rfl rfl rfl rfl rfl rfl rfl rfl rfl (by decide) (by omega) (by omega) rfl ?_; intro q6; refine WL.nil ?_
            refine WQ.acted (B := [.row (some ⟨q6, 0, none⟩) N 5 1 (List.replicate N [.int .u8 0])]) (U := .blk r0 (.cells [.slice none 0 0, .slice none 0 0, .slice none 0 0].toArray 86 (0, 0)) :: H) rfl (Mem.le.refl _) zpk ?_
            (refine WE.calm 7 (by decide +kernel) rfl rfl (by decide +kernel) rfl (fun c h => by cases h) (by intro zm zF zle; exact sq_E11_1) ?_)
            refine WE.done (by decide +kernel) ?_
            (try (refine st_E11_1 ?_; intros))
            exact WQ.join ⟨q2, q4, q6, b, rfl, rfl, rfl, rfl⟩ zsb zpk
        · refine Acts.mk rfl rfl (fun c h => by cases h) ?_
          refine WL.makeRow (k:=N) (sz:=1) (by':=1) (zs:=[.int .u8 0]) rfl rfl rfl rfl rfl rfl rfl rfl rfl rfl (by decide) (by omega) (by omega) rfl ?_; intro q6; refine WL.nil ?_
          refine WQ.acted (B := [.row (some ⟨q6, 0, none⟩) N 5 1 (List.replicate N [.int .u8 0])]) (U := .blk r0 (.cells [.slice none 0 0, .slice none 0 0, .slice none 0 0].toArray 86 (0, 0)) :: H) rfl (Mem.le.refl _) zpk ?_
          refine WE.acts [2] (by decide +kernel) (all_cons ?_ (all_nil))
          · refine Acts.mk rfl rfl (fun c h => by cases h) ?_
            refine WL.makeRow (k:=N + 1) (sz:=1) (by':=16) (zs:=[str []]) rfl rfl (by omega) (by omega) rfl rfl rfl rfl rfl rfl (by decide) (by omega) (by omega) rfl ?_; intro q2; refine WL.nil ?_
            refine WQ.acted (B := [.row (some ⟨q2, 0, none⟩) (N + 1) 9 1 (List.replicate (N + 1) [str []])]) (U := .blk r0 (.cells [.slice none 0 0, .slice none 0 0, .slice none 0 0].toArray 86 (0, 0)) :: H) rfl (Mem.le.refl _) zpk ?_
            (refine WE.calm 7 (by decide +kernel) rfl rfl (by decide +kernel) rfl (fun c h => by cases h) (by intro zm zF zle; exact sq_E11_1) ?_)
            refine WE.done (by decide +kernel) ?_
            (try (refine st_E11_1 ?_; intros))
            exact WQ.join ⟨q2, q4, q6, b, rfl, rfl, rfl, rfl⟩ zsb zpk
      · refine Acts.mk rfl rfl (fun c h => by cases h) ?_
        refine WL.makeRow (k:=N) (sz:=1) (by':=1) (zs:=[.int .u8 0]) rfl rfl rfl rfl rfl rfl rfl rfl rfl rfl (by decide) (by omega) (by omega) rfl ?_; intro q6; refine WL.nil ?_
        refine WQ.acted (B := [.row (some ⟨q6, 0, none⟩) N 5 1 (List.replicate N [.int .u8 0])]) (U := .blk r0 (.cells [.slice none 0 0, .slice none 0 0, .slice none 0 0].toArray 86 (0, 0)) :: H) rfl (Mem.le.refl _) zpk ?_
        refine WE.acts [2, 4] (by decide +kernel) (all_cons ?_ (all_cons ?_ (all_nil)))
        · refine Acts.mk rfl rfl (fun c h => by cases h) ?_
          refine WL.makeRow (k:=N + 1) (sz:=1) (by':=16) (zs:=[str []]) rfl rfl (by omega) (by omega) rfl rfl rfl rfl rfl rfl (by decide) (by omega) (by omega) rfl ?_; intro q2; refine WL.nil ?_
          refine WQ.acted (B := [.row (some ⟨q2, 0, none⟩) (N + 1) 9 1 (List.replicate (N + 1) [str []])]) (U := .blk r0 (.cells [.slice none 0 0, .slice none 0 0, .slice none 0 0].toArray 86 (0, 0)) :: H) rfl (Mem.le.refl _) zpk ?_
          refine WE.acts [4] (by decide +kernel) (all_cons ?_ (all_nil))
          · refine Acts.mk rfl rfl (fun c h => by cases h) ?_
            refine WL.makeRow (k:=N) (sz:=1) (by':=1) (zs:=[.bool false]) rfl rfl rfl rfl rfl rfl rfl rfl rfl rfl (by decide) (by omega) (by omega) rfl ?_; intro q4; refine WL.nil ?_
            refine WQ.acted (B := [.row (some ⟨q4, 0, none⟩) N 4 1 (List.replicate N [.bool false])]) (U := .blk r0 (.cells [.slice none 0 0, .slice none 0 0, .slice none 0 0].toArray 86 (0, 0)) :: H) rfl (Mem.le.refl _) zpk ?_
            (refine WE.calm 7 (by decide +kernel) rfl rfl (by decide +kernel) rfl (fun c h => by cases h) (by intro zm zF zle; exact sq_E11_1) ?_)
            refine WE.done (by decide +kernel) ?_
            (try (refine st_E11_1 ?_; intros))
            exact WQ.join ⟨q2, q4, q6, b, rfl, rfl, rfl, rfl⟩ zsb zpk
        · refine Acts.mk rfl rfl (fun c h => by cases h) ?_
          refine WL.makeRow (k:=N) (sz:=1) (by':=1) (zs:=[.bool false]) rfl rfl rfl rfl rfl rfl rfl rfl rfl rfl (by decide) (by omega) (by omega) rfl ?_; intro q4; refine WL.nil ?_
          refine WQ.acted (B := [.row (some ⟨q4, 0, none⟩) N 4 1 (List.replicate N [.bool false])]) (U := .blk r0 (.cells [.slice none 0 0, .slice none 0 0, .slice none 0 0].toArray 86 (0, 0)) :: H) rfl (Mem.le.refl _) zpk ?_
          refine WE.acts [2] (by decide +kernel) (all_cons ?_ (all_nil))
          · refine Acts.mk rfl rfl (fun c h => by cases h) ?_
            refine WL.makeRow (k:=N + 1) (sz:=1) (by':=16) (zs:=[str []]) rfl rfl (by omega) (by omega) rfl rfl rfl rfl rfl rfl (by decide) (by omega) (by omega) rfl ?_; intro q2; refine WL.nil ?_
            refine WQ.acted (B := [.row (some ⟨q2, 0, none⟩) (N + 1) 9 1 (List.replicate (N + 1) [str []])]) (U := .blk r0 (.cells [.slice none 0 0, .slice none 0 0, .slice none 0 0].toArray 86 (0, 0)) :: H) rfl (Mem.le.refl _) zpk ?_
            (refine WE.calm 7 (by decide +kernel) rfl rfl (by decide +kernel) rfl (fun c h => by cases h) (by intro zm zF zle; exact sq_E11_1) ?_)
            refine WE.done (by decide +kernel) ?_
            (try (refine st_E11_1 ?_; intros))
            exact WQ.join ⟨q2, q4, q6, b, rfl, rfl, rfl, rfl⟩ zsb zpk
  rintro _ _ _ _ ⟨q2, q4, q6, b, rfl, rfl, rfl, rfl⟩
  obtain ⟨s1, s2, s3⟩ := pads_start N
  rw [← s1, ← s2, ← s3]
  (try (refine st_E11_1 ?_; intros))
  have hg0 : atOf Gs.start = 0 ∧ gapAt Gs.start = 0 := by unfold atOf gapAt; exact ⟨rfl, rfl⟩
  refine WC.loopH [(9, .int .i64 ((0) : Int)), (8, .int .i64 ((0) : Int)), (7, .int .i64 ((0) : Int)), (6, .pointer (some ⟨b, 0, none⟩)), (2, .pointer (some ⟨r0, 0, none⟩)), (0, .slice a l.length cap)] ?_ ?_ (fun j r ds m' H' => ∃ (i : Nat) (g : Gs) (ga : Nat) (p : Nat), j = l.length - i ∧ r = [(9, .int .i64 (i : Int)), (8, .int .i64 (ga : Int)), (7, .int .i64 (p : Int)), (6, .pointer (some ⟨b, 0, none⟩)), (2, .pointer (some ⟨r0, 0, none⟩)), (0, .slice a l.length cap)] ∧ ds = [] ∧ m = m' ∧ H' = .blk b (.cells [.slice (some ⟨q2, 0, none⟩) (N + 1) (N + 1), .slice (some ⟨q4, 0, none⟩) N N, .slice (some ⟨q6, 0, none⟩) N N].toArray 86 (0, 0)) :: .blk r0 (.cells [.slice none 0 0, .slice none 0 0, .slice none 0 0].toArray 86 (0, 0)) :: .row (some ⟨q2, 0, none⟩) (N + 1) 9 1 ((putsPad N g).map sV) :: .row (some ⟨q4, 0, none⟩) N 4 1 ((dropsPad N g).map oV) :: .row (some ⟨q6, 0, none⟩) N 5 1 ((bytesPad N g).map uV) :: H ∧ (i ≤ l.length) ∧ (ga = gapAt g) ∧ (p = atOf g) ∧ ((l.drop i).foldl Gs.step g = gapsOf l) ∧ (atOf g + fromA (atomsOf (l.drop i)) = N) ∧ (g = gapsOf (l.take i))) (l.length - (0)) ⟨0, Gs.start, 0, 0, rfl, rfl, rfl, rfl, rfl, by omega, hg0.2.symm, hg0.1.symm, rfl, by rw [List.drop_zero]; omega, by rw [List.take_zero]; rfl⟩ ?_
  · (repeat (first | exact Env.Sub.nil | refine Env.Sub.cons rfl ?_))
  · exact zpk
  rintro j r ds m' H' ⟨i, g, ga, p, rfl, rfl, rfl, rfl, rfl, hi, hga0, hp0, hg, hN, hgr⟩
  subst hga0; subst hp0
  have hat : atOf g ≤ N := by omega
  obtain ⟨p1, p2, p3⟩ := pads_len hat
  have hga : gapAt g ≤ atOf g := by unfold atOf; omega
  by_cases hlt : i < l.length
  · obtain ⟨x, hx, hget, htk, hmem, hdr⟩ := at_idx (f := Stp.cs) hlt
    have hxok := hok x hmem
    rw [hdr, List.foldl_cons, step_parts hxok] at hg
    rw [hdr, atoms_cons, fromA_append, from_step] at hN
    have hxp := hf.p x hmem
    have hxd := hf.d x hmem
    have hxk := hf.k x hmem
    have hr1 := ((((hr.more (i := .row (some ⟨q6, 0, none⟩) N 5 1 ((bytesPad N g).map uV))).more (i := .row (some ⟨q4, 0, none⟩) N 4 1 ((dropsPad N g).map oV))).more (i := .row (some ⟨q2, 0, none⟩) (N + 1) 9 1 ((putsPad N g).map sV))).more (i := .blk r0 (.cells [.slice none 0 0, .slice none 0 0, .slice none 0 0].toArray 86 (0, 0)))).more (i := .blk b (.cells [.slice (some ⟨q2, 0, none⟩) (N + 1) (N + 1), .slice (some ⟨q4, 0, none⟩) N N, .slice (some ⟨q6, 0, none⟩) N N].toArray 86 (0, 0)))
    refine WC.rSome hr1 (by omega) ?_
    rintro a0 rfl
    obtain ⟨u1, u2⟩ := put_puts (N := N) (g := g) (s := x.p) hat
    obtain ⟨u3, u4⟩ := put_at g x.p
    have u5 : ((putsPad N g).map sV)[gapAt g]? = some [str g.cur.p] := by rw [List.getElem?_map, u2]; rfl
    have u6 : ((putsPad N g).map sV).set (gapAt g) [str (g.cur.p ++ x.p)] = (putsPad N (g.put x.p)).map sV := by rw [u1, List.map_set]; rfl
    (refine st_E11_1 ?_; intros; rename_i bx)
    refine WC.join (fun r' ds' m' H' => r' = [(6, .pointer (some ⟨b, 0, none⟩)), (7, .int .i64 (atOf g : Int)), (8, .int .i64 (gapAt g : Int)), (9, .int .i64 (i : Int)), (10, .pointer (some ⟨bx, 0, none⟩)), (2, .pointer (some ⟨r0, 0, none⟩)), (0, .slice (some a0) l.length cap)] ∧ ds' = [] ∧ m = m' ∧ H' = .blk bx (.cells [.int .i64 x.k, str x.d, str x.p].toArray 81 (0, 0)) :: .blk b (.cells [.slice (some ⟨q2, 0, none⟩) (N + 1) (N + 1), .slice (some ⟨q4, 0, none⟩) N N, .slice (some ⟨q6, 0, none⟩) N N].toArray 86 (0, 0)) :: .blk r0 (.cells [.slice none 0 0, .slice none 0 0, .slice none 0 0].toArray 86 (0, 0)) :: .row (some ⟨q2, 0, none⟩) (N + 1) 9 1 ((putsPad N (g.put x.p)).map sV) :: .row (some ⟨q4, 0, none⟩) N 4 1 ((dropsPad N g).map oV) :: .row (some ⟨q6, 0, none⟩) N 5 1 ((bytesPad N g).map uV) :: H) ?_ ?_
    · by_cases hp : x.p = []
      · have e : g.put x.p = g := by rw [hp, put_nil]
        rw [e]
        (try (refine st_E11_1 ?_; intros))
        exact WQ.join ⟨rfl, rfl, rfl, rfl⟩ zsb zpk
      · have hpn : g.cur.p.length ≤ 100000000000 := by
          have := cur_len hok i
          rw [← hgr] at this
          omega
        (try (refine st_E11_1 ?_; intros))
        rw [u6]
        exact WQ.join ⟨rfl, rfl, rfl, rfl⟩ zsb zpk
    rintro _ _ _ _ ⟨rfl, rfl, rfl, rfl⟩
    have v1 : dropsPad N (g.put x.p) = dropsPad N g ∧ bytesPad N (g.put x.p) = bytesPad N g := by
      unfold dropsPad bytesPad Gs.put; exact ⟨rfl, rfl⟩
    rw [← v1.1, ← v1.2]
    (try (refine st_E11_1 ?_; intros))
    refine WC.loopH [(11, .int .i64 ((0) : Int)), (6, .pointer (some ⟨b, 0, none⟩)), (7, .int .i64 ((atOf g) : Int)), (8, .int .i64 (gapAt g : Int)), (9, .int .i64 (i : Int)), (10, .pointer (some ⟨bx, 0, none⟩)), (2, .pointer (some ⟨r0, 0, none⟩)), (0, .slice (some a0) l.length cap)] ?_ ?_ (fun j r ds m' H' => ∃ (q : Nat) (p : Nat) (gd : Gs), j = x.d.length - q ∧ r = [(11, .int .i64 (q : Int)), (6, .pointer (some ⟨b, 0, none⟩)), (7, .int .i64 (p : Int)), (8, .int .i64 (gapAt g : Int)), (9, .int .i64 (i : Int)), (10, .pointer (some ⟨bx, 0, none⟩)), (2, .pointer (some ⟨r0, 0, none⟩)), (0, .slice (some a0) l.length cap)] ∧ ds = [] ∧ m = m' ∧ H' = .blk bx (.cells [.int .i64 x.k, str x.d, str x.p].toArray 81 (0, 0)) :: .blk b (.cells [.slice (some ⟨q2, 0, none⟩) (N + 1) (N + 1), .slice (some ⟨q4, 0, none⟩) N N, .slice (some ⟨q6, 0, none⟩) N N].toArray 86 (0, 0)) :: .blk r0 (.cells [.slice none 0 0, .slice none 0 0, .slice none 0 0].toArray 86 (0, 0)) :: .row (some ⟨q2, 0, none⟩) (N + 1) 9 1 ((putsPad N gd).map sV) :: .row (some ⟨q4, 0, none⟩) N 4 1 ((dropsPad N gd).map oV) :: .row (some ⟨q6, 0, none⟩) N 5 1 ((bytesPad N gd).map uV) :: H ∧ (q ≤ x.d.length) ∧ (gd = (g.put x.p).drops (x.d.take q)) ∧ (p = atOf gd) ∧ (p = atOf g + q)) (x.d.length - (0)) ⟨0, atOf g, g.put x.p, rfl, rfl, rfl, rfl, rfl, by omega, by rw [List.take_zero, drops_nil], by rw [u3], by omega⟩ ?_
    · (repeat (first | exact Env.Sub.nil | refine Env.Sub.cons rfl ?_))
    · exact zpk
    rintro j r ds m' H' ⟨q, p, gd, rfl, rfl, rfl, rfl, rfl, hj, hgd, hp0, hpj⟩
    subst hp0
    by_cases hjl : q < x.d.length
    · obtain ⟨k1, k2, k3, k4, k5⟩ := byte_drops (N := N) (g := gd) (b := x.d[q]) (by omega)
      obtain ⟨z1, z2, z3⟩ := pads_len (N := N) (g := gd) (by omega)
      have k6 : ((dropsPad N gd).map oV).set (atOf gd) [.bool true] = (dropsPad N (gd.byte x.d[q])).map oV := by rw [k1, List.map_set]; rfl
      have k7 : ((bytesPad N gd).map uV).set (atOf gd) [.int .u8 (gb x.d q : Int)] = (bytesPad N (gd.byte x.d[q])).map uV := by rw [k2, List.map_set, gb_at hjl]; rfl
      (try (refine st_E11_1 ?_; intros))
      rw [k6, k7, ← k3]
      refine WQ.next (x.d.length - (q + 1)) ⟨q + 1, atOf gd + 1, gd.byte x.d[q], rfl, rfl, rfl, rfl, rfl, ?_, ?_, ?_, ?_⟩ (by omega) zsb zpk
      · omega
      · rw [hgd, List.take_succ_eq_append_getElem hjl, drops_snoc]
      · rw [k4]
      · omega
    · have hjx : q = x.d.length := by omega
      rw [hjx, List.take_length] at hgd
      obtain ⟨w1, w2⟩ := drops_at (g.put x.p) x.d
      rw [← hgd, u3] at w1
      rw [← hgd, u4] at w2
      by_cases hk : 0 < x.k
      · rw [if_pos hk, ← hgd] at hg
        obtain ⟨k1, k2, k3, k4, k5⟩ := keep_pads (N := N) (g := gd) (n := x.k.toNat) (by omega) (by omega)
        rw [← k1, ← k2, ← k3]
        have e : (atOf gd : Int) + x.k = ((atOf gd + x.k.toNat : Nat) : Int) := by omega
        (try (refine st_E11_1 ?_; intros))
        rw [e]
        refine WQ.next (l.length - (i + 1)) ⟨i + 1, gd.keeps x.k.toNat, atOf gd + x.k.toNat, atOf gd + x.k.toNat, rfl, rfl, rfl, rfl, rfl, ?_, ?_, ?_, ?_, ?_, ?_⟩ (by omega) zsb zpk
        · omega
        · exact k4.symm
        · exact k5.symm
        · exact hg
        · omega
        · rw [gaps_next htk, ← hgr, step_parts hxok, if_pos hk, ← hgd]
      · rw [if_neg hk, ← hgd] at hg
        (try (refine st_E11_1 ?_; intros))
        refine WQ.next (l.length - (i + 1)) ⟨i + 1, gd, gapAt g, atOf gd, rfl, rfl, rfl, rfl, rfl, ?_, ?_, ?_, ?_, ?_, ?_⟩ (by omega) zsb zpk
        · omega
        · exact w2.symm
        · rfl
        · exact hg
        · omega
        · rw [gaps_next htk, ← hgr, step_parts hxok, if_neg hk, ← hgd]
  · obtain rfl : i = l.length := by omega
    rw [List.drop_length, List.foldl_nil] at hg
    rw [List.drop_length] at hN
    obtain ⟨f1, f2, f3⟩ := pads_full (N := N) (g := g) (by rw [← hN]; rfl)
    rw [f1] at p2; rw [f2] at p3; rw [f3] at p1
    rw [f1, f2, f3]
    subst hg
    have p1' : N + 1 = (putsOf (gapsOf l)).length := by rw [← p1, List.length_map]
    have p2' : N = (dropsOf (gapsOf l)).length := by rw [← p2, List.length_map]
    have p3' : N = (bytesOf (gapsOf l)).length := by rw [← p3, List.length_map]
    (try (refine st_E11_1 ?_; intros))
    exact q_fin0 (H0 := .row (some ⟨q2, 0, none⟩) (N + 1) 9 1 ((putsOf (gapsOf l)).map sV) :: .row (some ⟨q4, 0, none⟩) N 4 1 ((dropsOf (gapsOf l)).map oV) :: .row (some ⟨q6, 0, none⟩) N 5 1 ((bytesOf (gapsOf l)).map uV) :: H) ⟨rfl, q2, q4, q6, by rw [← p1', ← p2', ← p3'], by rw [← p1', ← p2', ← p3']⟩ (hd := zpk)
end Go.Proofs.Ytieangfnjflfmaa

/-
  The walk of the law's comparison of changes. No condition.
-/
namespace Go.Proofs.Ytieangfnjflfmaa
open Go Go.Eng
set_option maxRecDepth 100000
set_option maxHeartbeats 4000000
set_option linter.all false
attribute [local irreducible] WL WC WQ QFun QLoop Does Q1 QRound QAssign Go.Addr.add
end Go.Proofs.Ytieangfnjflfmaa

/-
  The walks of the reference's Plain and of the law's spoiling of an answer, for a seat that reaches neither Compose nor Carry. No condition.
-/
namespace Go.Eng
open Go Go.RowKit
theorem bfit_put {N : Nat} {B : Bld} (h : BFit N B) (P : List UInt8) : BFit (N + P.length) ⟨B.l, B.p ++ P, B.d⟩ :=
  ⟨by have := h.len; simp only; omega, fun s hs => by have := h.k s hs; omega, by have := h.p; simp only [List.length_append]; omega, by have := h.d; simp only; omega⟩
theorem bfit_drop {N : Nat} {B : Bld} (h : BFit N B) (P : List UInt8) : BFit (N + P.length) ⟨B.l, B.p, B.d ++ P⟩ :=
  ⟨by have := h.len; simp only; omega, fun s hs => by have := h.k s hs; omega, by have := h.p; simp only; omega, by have := h.d; simp only [List.length_append]; omega⟩
theorem pos_drop {PX : List (List UInt8)} {DX : List Bool} {BX : List UInt8} {p : Nat} (h1 : BX.length = DX.length) (h2 : PX.length = DX.length + 1) (hp : p < DX.length) : (PX.zip (DX.zip BX)).drop p = (PX[p], DX[p], BX[p]) :: (PX.zip (DX.zip BX)).drop (p + 1) := by
  rw [List.drop_eq_getElem_cons (by simp only [List.length_zip]; omega)]
  simp
theorem getD_last {PX : List (List UInt8)} {N p : Nat} (hp : p = N) (h : p < PX.length) : PX.getD N [] = PX[p] := by
  subst hp
  rw [List.getD_eq_getElem?_getD, List.getElem?_eq_getElem h]; rfl
theorem pos_end {PX : List (List UInt8)} {DX : List Bool} {BX : List UInt8} {p : Nat} (h : DX.length ≤ p) : (PX.zip (DX.zip BX)).drop p = [] := List.drop_eq_nil_of_le (by simp only [List.length_zip]; omega)
/-- how much is left, place by place -/
theorem pos_less {PX : List (List UInt8)} {DX : List Bool} {BX : List UInt8} {p : Nat} (h1 : BX.length = DX.length) (h2 : PX.length = DX.length + 1) (hp : p < DX.length) :
    (sdA ((PX.zip (DX.zip BX)).drop p) (PX.getD DX.length [])).length = PX[p].length + 1 + (sdA ((PX.zip (DX.zip BX)).drop (p + 1)) (PX.getD DX.length [])).length := by
  rw [pos_drop h1 h2 hp, sdA_cons]
  simp only [List.length_append, List.length_map, List.length_cons]
  omega
theorem pos_left {PX : List (List UInt8)} {DX : List Bool} {BX : List UInt8} {p : Nat} (h1 : BX.length = DX.length) (h2 : PX.length = DX.length + 1) (hp : p < PX.length) : PX[p].length ≤ (sdA ((PX.zip (DX.zip BX)).drop p) (PX.getD DX.length [])).length := by
  by_cases h : p < DX.length
  · rw [pos_less h1 h2 h]; omega
  · rw [pos_end (by omega), sdA_nil, getD_last (by omega) hp, List.length_map]; exact Nat.le_refl _
section
variable {P : Program} {ro : Option Nat} {n : Nat} {w0 : World} {Q : Exit → Act → World → Prop} {r : Env} {ds : List Nat} {m : Mem} {H : SHeap}
end
end Go.Eng
namespace Go.Proofs.Ytieangfnjflfmaa
open Go Go.Eng
set_option maxRecDepth 100000
set_option maxHeartbeats 4000000
set_option linter.all false
attribute [local irreducible] WL WC WQ QFun QLoop Does Q1 QRound QAssign Go.Addr.add
attribute [local irreducible] sizesF sizesOf putsOf dropsOf bytesOf gapsOf applyA plainOf
theorem cmx_EQP_0 {G G' : Prop} (next : G') (h : Bx G' → G := by intro zzn; (try (refine wcal 0 ?_ (hwl := by intro zm zF zle; try refine WL.blkStr (s := [d]) rfl zhs rfl rfl rfl rfl rfl rfl rfl ?_; ((repeat (refine sp ?_; intros)); exact WQ.q1 rfl)))); (try (refine wcal 1 ?_ (hwl := by intro zm zF zle; try refine WL.blkStr (s := [d]) rfl zhs rfl rfl rfl rfl rfl rfl rfl ?_; ((repeat (refine sp ?_; intros)); exact WQ.q1 rfl)))); (try (refine wcal 2 ?_ (hwl := by intro zm zF zle; try refine WL.blkStr (s := [d]) rfl zhs rfl rfl rfl rfl rfl rfl rfl ?_; ((repeat (refine sp ?_; intros)); exact WQ.q1 rfl)))); (try (refine wcal 3 ?_ (hwl := by intro zm zF zle; try refine WL.blkStr (s := [d]) rfl zhs rfl rfl rfl rfl rfl rfl rfl ?_; ((repeat (refine sp ?_; intros)); exact WQ.q1 rfl)))); (try (refine wcal 4 ?_ (hwl := by intro zm zF zle; try refine WL.blkStr (s := [d]) rfl zhs rfl rfl rfl rfl rfl rfl rfl ?_; ((repeat (refine sp ?_; intros)); exact WQ.q1 rfl)))); (try (refine wcal 5 ?_ (hwl := by intro zm zF zle; try refine WL.blkStr (s := [d]) rfl zhs rfl rfl rfl rfl rfl rfl rfl ?_; ((repeat (refine sp ?_; intros)); exact WQ.q1 rfl)))); (try (refine wcal 6 ?_ (hwl := by intro zm zF zle; try refine WL.blkStr (s := [d]) rfl zhs rfl rfl rfl rfl rfl rfl rfl ?_; ((repeat (refine sp ?_; intros)); exact WQ.q1 rfl)))); (try (refine wcal 7 ?_ (hwl := by intro zm zF zle; try refine WL.blkStr (s := [d]) rfl zhs rfl rfl rfl rfl rfl rfl rfl ?_; ((repeat (refine sp ?_; intros)); exact WQ.q1 rfl)))); (try (refine wcal 8 ?_ (hwl := by intro zm zF zle; try refine WL.blkStr (s := [d]) rfl zhs rfl rfl rfl rfl rfl rfl rfl ?_; ((repeat (refine sp ?_; intros)); exact WQ.q1 rfl)))); (try (refine wcal 9 ?_ (hwl := by intro zm zF zle; try refine WL.blkStr (s := [d]) rfl zhs rfl rfl rfl rfl rfl rfl rfl ?_; ((repeat (refine sp ?_; intros)); exact WQ.q1 rfl)))); (try (refine wcal 10 ?_ (hwl := by intro zm zF zle; try refine WL.blkStr (s := [d]) rfl zhs rfl rfl rfl rfl rfl rfl rfl ?_; ((repeat (refine sp ?_; intros)); exact WQ.q1 rfl)))); (try (refine wcal 11 ?_ (hwl := by intro zm zF zle; try refine WL.blkStr (s := [d]) rfl zhs rfl rfl rfl rfl rfl rfl rfl ?_; ((repeat (refine sp ?_; intros)); exact WQ.q1 rfl)))); (try (refine wcal 12 ?_ (hwl := by intro zm zF zle; try refine WL.blkStr (s := [d]) rfl zhs rfl rfl rfl rfl rfl rfl rfl ?_; ((repeat (refine sp ?_; intros)); exact WQ.q1 rfl)))); (try (refine wcal 13 ?_ (hwl := by intro zm zF zle; try refine WL.blkStr (s := [d]) rfl zhs rfl rfl rfl rfl rfl rfl rfl ?_; ((repeat (refine sp ?_; intros)); exact WQ.q1 rfl)))); (try (refine wcal 14 ?_ (hwl := by intro zm zF zle; try refine WL.blkStr (s := [d]) rfl zhs rfl rfl rfl rfl rfl rfl rfl ?_; ((repeat (refine sp ?_; intros)); exact WQ.q1 rfl)))); (try (refine wcal 15 ?_ (hwl := by intro zm zF zle; try refine WL.blkStr (s := [d]) rfl zhs rfl rfl rfl rfl rfl rfl rfl ?_; ((repeat (refine sp ?_; intros)); exact WQ.q1 rfl)))); (try (refine wcal 16 ?_ (hwl := by intro zm zF zle; try refine WL.blkStr (s := [d]) rfl zhs rfl rfl rfl rfl rfl rfl rfl ?_; ((repeat (refine sp ?_; intros)); exact WQ.q1 rfl)))); (try (refine wcal 17 ?_ (hwl := by intro zm zF zle; try refine WL.blkStr (s := [d]) rfl zhs rfl rfl rfl rfl rfl rfl rfl ?_; ((repeat (refine sp ?_; intros)); exact WQ.q1 rfl)))); (try (refine wcal 18 ?_ (hwl := by intro zm zF zle; try refine WL.blkStr (s := [d]) rfl zhs rfl rfl rfl rfl rfl rfl rfl ?_; ((repeat (refine sp ?_; intros)); exact WQ.q1 rfl)))); (try (refine wcal 19 ?_ (hwl := by intro zm zF zle; try refine WL.blkStr (s := [d]) rfl zhs rfl rfl rfl rfl rfl rfl rfl ?_; ((repeat (refine sp ?_; intros)); exact WQ.q1 rfl)))); (try (refine wcal 20 ?_ (hwl := by intro zm zF zle; try refine WL.blkStr (s := [d]) rfl zhs rfl rfl rfl rfl rfl rfl rfl ?_; ((repeat (refine sp ?_; intros)); exact WQ.q1 rfl)))); (try (refine wcal 21 ?_ (hwl := by intro zm zF zle; try refine WL.blkStr (s := [d]) rfl zhs rfl rfl rfl rfl rfl rfl rfl ?_; ((repeat (refine sp ?_; intros)); exact WQ.q1 rfl)))); (try (refine wcal 22 ?_ (hwl := by intro zm zF zle; try refine WL.blkStr (s := [d]) rfl zhs rfl rfl rfl rfl rfl rfl rfl ?_; ((repeat (refine sp ?_; intros)); exact WQ.q1 rfl)))); (try (refine wcal 23 ?_ (hwl := by intro zm zF zle; try refine WL.blkStr (s := [d]) rfl zhs rfl rfl rfl rfl rfl rfl rfl ?_; ((repeat (refine sp ?_; intros)); exact WQ.q1 rfl)))); (try (refine wcal 24 ?_ (hwl := by intro zm zF zle; try refine WL.blkStr (s := [d]) rfl zhs rfl rfl rfl rfl rfl rfl rfl ?_; ((repeat (refine sp ?_; intros)); exact WQ.q1 rfl)))); (try (refine wcal 25 ?_ (hwl := by intro zm zF zle; try refine WL.blkStr (s := [d]) rfl zhs rfl rfl rfl rfl rfl rfl rfl ?_; ((repeat (refine sp ?_; intros)); exact WQ.q1 rfl)))); (try (refine wcal 26 ?_ (hwl := by intro zm zF zle; try refine WL.blkStr (s := [d]) rfl zhs rfl rfl rfl rfl rfl rfl rfl ?_; ((repeat (refine sp ?_; intros)); exact WQ.q1 rfl)))); (try (refine wcal 27 ?_ (hwl := by intro zm zF zle; try refine WL.blkStr (s := [d]) rfl zhs rfl rfl rfl rfl rfl rfl rfl ?_; ((repeat (refine sp ?_; intros)); exact WQ.q1 rfl)))); (try (refine wcal 28 ?_ (hwl := by intro zm zF zle; try refine WL.blkStr (s := [d]) rfl zhs rfl rfl rfl rfl rfl rfl rfl ?_; ((repeat (refine sp ?_; intros)); exact WQ.q1 rfl)))); (try (refine wcal 29 ?_ (hwl := by intro zm zF zle; try refine WL.blkStr (s := [d]) rfl zhs rfl rfl rfl rfl rfl rfl rfl ?_; ((repeat (refine sp ?_; intros)); exact WQ.q1 rfl)))); (try (refine wcal 30 ?_ (hwl := by intro zm zF zle; try refine WL.blkStr (s := [d]) rfl zhs rfl rfl rfl rfl rfl rfl rfl ?_; ((repeat (refine sp ?_; intros)); exact WQ.q1 rfl)))); (try (refine wcal 31 ?_ (hwl := by intro zm zF zle; try refine WL.blkStr (s := [d]) rfl zhs rfl rfl rfl rfl rfl rfl rfl ?_; ((repeat (refine sp ?_; intros)); exact WQ.q1 rfl)))); (try (refine wcal 32 ?_ (hwl := by intro zm zF zle; try refine WL.blkStr (s := [d]) rfl zhs rfl rfl rfl rfl rfl rfl rfl ?_; ((repeat (refine sp ?_; intros)); exact WQ.q1 rfl)))); (try (refine wcal 33 ?_ (hwl := by intro zm zF zle; try refine WL.blkStr (s := [d]) rfl zhs rfl rfl rfl rfl rfl rfl rfl ?_; ((repeat (refine sp ?_; intros)); exact WQ.q1 rfl)))); (try (refine wcal 34 ?_ (hwl := by intro zm zF zle; try refine WL.blkStr (s := [d]) rfl zhs rfl rfl rfl rfl rfl rfl rfl ?_; ((repeat (refine sp ?_; intros)); exact WQ.q1 rfl)))); (try (refine wcal 35 ?_ (hwl := by intro zm zF zle; try refine WL.blkStr (s := [d]) rfl zhs rfl rfl rfl rfl rfl rfl rfl ?_; ((repeat (refine sp ?_; intros)); exact WQ.q1 rfl)))); (try (refine wcal 36 ?_ (hwl := by intro zm zF zle; try refine WL.blkStr (s := [d]) rfl zhs rfl rfl rfl rfl rfl rfl rfl ?_; ((repeat (refine sp ?_; intros)); exact WQ.q1 rfl)))); (try (refine wcal 37 ?_ (hwl := by intro zm zF zle; try refine WL.blkStr (s := [d]) rfl zhs rfl rfl rfl rfl rfl rfl rfl ?_; ((repeat (refine sp ?_; intros)); exact WQ.q1 rfl)))); (try (refine wcal 38 ?_ (hwl := by intro zm zF zle; try refine WL.blkStr (s := [d]) rfl zhs rfl rfl rfl rfl rfl rfl rfl ?_; ((repeat (refine sp ?_; intros)); exact WQ.q1 rfl)))); (try (refine wcal 39 ?_ (hwl := by intro zm zF zle; try refine WL.blkStr (s := [d]) rfl zhs rfl rfl rfl rfl rfl rfl rfl ?_; ((repeat (refine sp ?_; intros)); exact WQ.q1 rfl)))); (try (refine wcal 40 ?_ (hwl := by intro zm zF zle; try refine WL.blkStr (s := [d]) rfl zhs rfl rfl rfl rfl rfl rfl rfl ?_; ((repeat (refine sp ?_; intros)); exact WQ.q1 rfl)))); (try (refine wcal 41 ?_ (hwl := by intro zm zF zle; try refine WL.blkStr (s := [d]) rfl zhs rfl rfl rfl rfl rfl rfl rfl ?_; ((repeat (refine sp ?_; intros)); exact WQ.q1 rfl)))); exact zzn.out) : G := h ⟨next⟩
theorem mdrop_any {b : Nat} {c : Option Addr} {cp : Nat} (B : Bld) (d : UInt8) (hB : B.d.length ≤ 100000000000) (w0 : World) (m : Mem) (H : SHeap) :
    Does Try.prog 50 #[.pointer (some ⟨b, 0, none⟩), .int .u8 (d.toNat : Int)] w0 m (.blk b (.cells [.slice c B.l.length cp, str B.p, str B.d].toArray 117 (0, 0)) :: H)
      (fun v m' H' => v = .tuple #[] ∧ m' = m ∧ H' = .blk b (.cells [.slice c B.l.length cp, str B.p, str (B.d ++ [d])].toArray 117 (0, 0)) :: H) := by
  refine Does.of_body (args := [.pointer (some ⟨b, 0, none⟩), .int .u8 (d.toNat : Int)]) Try.func50 rfl Try.ntmps50 rfl ?_
  have hd1 : [d].length = 1 := rfl
  refine WC.drawE 11 ([.blk b (.cells [.slice c B.l.length cp, str B.p, str B.d].toArray 117 (0, 0))]) (H) rfl (by decide +kernel) zpk ?_
  (refine cm0 ?_)
  refine WE.act1 6 (by decide +kernel) rfl rfl (fun c h => by cases h) ?_
  (refine st ?_; intros; rename_i q)
  refine WQ.acted (B := [.blk q (.cells [.int .u8 (d.toNat : Int)].toArray 5 (0, 0))]) (U := H) rfl (Mem.le.refl _) zpk ?_
  (refine cmx_EQP_0 ?_)
  (refine cm0 ?_)
  refine WE.done (by decide +kernel) ?_
  (try (refine st ?_; intros))
  exact q_finNorm0 (H0 := .blk b (.cells [.slice c B.l.length cp, str B.p, str (B.d ++ [d])].toArray 117 (0, 0)) :: H) ⟨rfl, rfl, rfl⟩ (hd := zpk)
theorem rPlain_any {q2 q4 q6 : Nat} {PX : List (List UInt8)} {DX : List Bool} {BX : List UInt8} (la1 : BX.length = DX.length) (la2 : PX.length = DX.length + 1) (hln : (sdA (PX.zip (DX.zip BX)) (PX.getD DX.length [])).length ≤ 200000) (w0 : World) (m : Mem) (H : SHeap) :
    Does Try.prog 36 #[.agg #[.slice (some ⟨q2, 0, none⟩) PX.length PX.length, .slice (some ⟨q4, 0, none⟩) DX.length DX.length, .slice (some ⟨q6, 0, none⟩) BX.length BX.length]] w0 m (.row (some ⟨q2, 0, none⟩) PX.length 9 1 (PX.map sV) :: .row (some ⟨q4, 0, none⟩) DX.length 4 1 (DX.map oV) :: .row (some ⟨q6, 0, none⟩) BX.length 5 1 (BX.map uV) :: H)
      (fun v m' H' => m' = m ∧ ∃ c cp, v = .slice c (listOf (sdA (PX.zip (DX.zip BX)) (PX.getD DX.length []))).length cp ∧ H' = .row c cp 81 3 ((listOf (sdA (PX.zip (DX.zip BX)) (PX.getD DX.length []))).map Stp.cs) :: H) := by
  refine Does.of_body (args := [.agg #[.slice (some ⟨q2, 0, none⟩) PX.length PX.length, .slice (some ⟨q4, 0, none⟩) DX.length DX.length, .slice (some ⟨q6, 0, none⟩) BX.length BX.length]]) Try.func36 rfl Try.ntmps36 rfl ?_
  have hPl : (PX.map sV).length = PX.length := by simp
  have hDl : (DX.map oV).length = DX.length := by simp
  have hBl : (BX.map uV).length = BX.length := by simp
  have hDle : DX.length ≤ 200000 := by
    have h1 := sd_from (PX.getD DX.length []) (PX.zip (DX.zip BX))
    have h2 := fromA_le (sdA (PX.zip (DX.zip BX)) (PX.getD DX.length []))
    simp only [List.length_zip] at h1
    omega
  have hlist : listOf (sdA (PX.zip (DX.zip BX)) (PX.getD DX.length [])) = (Bld.start.run (sdA (PX.zip (DX.zip BX)) (PX.getD DX.length []))).close.l := rfl
  generalize listOf (sdA (PX.zip (DX.zip BX)) (PX.getD DX.length [])) = R at *
  (refine st ?_; intros; rename_i x bm)
  refine WC.newRow (T := 81) (sz := 3) ?_
  refine WC.loopH [(4, .int .i64 ((0) : Int)), (3, .pointer (some ⟨bm, 0, none⟩)), (1, .pointer (some ⟨x, 0, none⟩))] ?_ ?_ (fun j r ds m' H' => ∃ (p : Nat) (c : Option Addr) (cp : Nat) (B : Bld) (k : Nat), j = PX.length - p ∧ r = [(4, .int .i64 (p : Int)), (3, .pointer (some ⟨bm, 0, none⟩)), (1, .pointer (some ⟨x, 0, none⟩))] ∧ ds = [] ∧ m = m' ∧ H' = .blk bm (.cells [.slice c B.l.length cp, str B.p, str B.d].toArray 117 (0, 0)) :: .row c cp 81 3 (B.l.map Stp.cs) :: .blk x (.cells [.slice (some ⟨q2, 0, none⟩) PX.length PX.length, .slice (some ⟨q4, 0, none⟩) DX.length DX.length, .slice (some ⟨q6, 0, none⟩) BX.length BX.length].toArray 86 (0, 0)) :: .row (some ⟨q2, 0, none⟩) PX.length 9 1 (PX.map sV) :: .row (some ⟨q4, 0, none⟩) DX.length 4 1 (DX.map oV) :: .row (some ⟨q6, 0, none⟩) BX.length 5 1 (BX.map uV) :: H ∧ (p ≤ PX.length) ∧ (BFit k B) ∧ ((p ≤ DX.length ∧ k + 4 * (sdA ((PX.zip (DX.zip BX)).drop p) (PX.getD DX.length [])).length ≤ 10000000) ∨ (p = DX.length + 1 ∧ k ≤ 10000000)) ∧ ((p ≤ DX.length → R = (B.run (sdA ((PX.zip (DX.zip BX)).drop p) (PX.getD DX.length []))).close.l) ∧ (p = DX.length + 1 → R = B.close.l))) (PX.length - (0)) ⟨0, none, 0, Bld.start, 0, rfl, rfl, rfl, rfl, rfl, by omega, BFit.start, by rw [List.drop_zero]; exact .inl ⟨by omega, by omega⟩, by rw [List.drop_zero]; exact ⟨fun _ => hlist, fun h => by omega⟩⟩ ?_
  · (repeat (first | exact Env.Sub.nil | refine Env.Sub.cons rfl ?_))
  · exact zpk
  rintro j r ds m' H' ⟨p, c, cp, B, k, rfl, rfl, rfl, rfl, rfl, hp, hB, hk, ht⟩
  have hBp := hB.p
  have hBd := hB.d
  by_cases hlt : p < PX.length
  · have hk1 : k + 4 * (sdA ((PX.zip (DX.zip BX)).drop p) (PX.getD DX.length [])).length ≤ 10000000 := by omega
    have ht1 := ht.1 (by omega)
    have hgx : (PX.map sV)[p]? = some [str PX[p]] := by rw [List.getElem?_map, List.getElem?_eq_getElem hlt]; rfl
    have hB1 := bfit_put hB PX[p]
    by_cases hpd : p < DX.length
    · have hxb : p < BX.length := by omega
      have gxd : (DX.map oV)[p]? = some [.bool DX[p]] := by rw [List.getElem?_map, List.getElem?_eq_getElem hpd]; rfl
      have gxb : (BX.map uV)[p]? = some [.int .u8 (BX[p].toNat : Int)] := by rw [List.getElem?_map, List.getElem?_eq_getElem hxb]; rfl
      rw [pos_less la1 la2 hpd] at hk1
      rw [pos_drop la1 la2 hpd, sdA_cons, run_append, run_p] at ht1
      dsimp only at ht1
      cases hdx : DX[p] with
      | true =>
        rw [hdx] at gxd ht1
        (try (refine st ?_; intros))
        refine WL.heap (H' := .blk bm (.cells [.slice c B.l.length cp, str (B.p ++ PX[p]), str B.d].toArray 117 (0, 0)) :: .row c cp 81 3 (B.l.map Stp.cs) :: .blk x (.cells [.slice (some ⟨q2, 0, none⟩) PX.length PX.length, .slice (some ⟨q4, 0, none⟩) DX.length DX.length, .slice (some ⟨q6, 0, none⟩) BX.length BX.length].toArray 86 (0, 0)) :: .row (some ⟨q2, 0, none⟩) PX.length 9 1 (PX.map sV) :: .row (some ⟨q4, 0, none⟩) DX.length 4 1 (DX.map oV) :: .row (some ⟨q6, 0, none⟩) BX.length 5 1 (BX.map uV) :: H) zpk ?_
        refine w_callF Try.func50 ?_ (hs := mdrop_any ⟨B.l, B.p ++ PX[p], B.d⟩ BX[p] (by simp only; omega) _ _ _)
        rintro v m H1 ⟨rfl, rfl, rfl⟩
        (try (refine st ?_; intros))
        refine WQ.next (PX.length - (p + 1)) ⟨p + 1, c, cp, ⟨B.l, B.p ++ PX[p], B.d ++ [BX[p]]⟩, k + PX[p].length + 1, rfl, rfl, rfl, rfl, rfl, ?_, ?_, ?_, ?_⟩ (by omega) zsb zpk
        · omega
        · exact (bfit_drop hB1 [BX[p]]).mono (by simp only [List.length_singleton]; omega)
        · exact .inl ⟨by omega, by omega⟩
        · exact ⟨fun _ => ht1, fun h => by omega⟩
      | false =>
        rw [hdx] at gxd ht1
        (try (refine st ?_; intros))
        refine WL.heap (H' := .blk bm (.cells [.slice c B.l.length cp, str (B.p ++ PX[p]), str B.d].toArray 117 (0, 0)) :: .row c cp 81 3 (B.l.map Stp.cs) :: .blk x (.cells [.slice (some ⟨q2, 0, none⟩) PX.length PX.length, .slice (some ⟨q4, 0, none⟩) DX.length DX.length, .slice (some ⟨q6, 0, none⟩) BX.length BX.length].toArray 86 (0, 0)) :: .row (some ⟨q2, 0, none⟩) PX.length 9 1 (PX.map sV) :: .row (some ⟨q4, 0, none⟩) DX.length 4 1 (DX.map oV) :: .row (some ⟨q6, 0, none⟩) BX.length 5 1 (BX.map uV) :: H) zpk ?_
        refine w_callF Try.func51 ?_ (hs := mkeep_any ⟨B.l, B.p ++ PX[p], B.d⟩ 1 (by omega) (hB1.mono (by omega)) _ _ _)
        rintro v m H1 ⟨rfl, rfl, c2, cp2, rfl⟩
        (try (refine st ?_; intros))
        refine WQ.next (PX.length - (p + 1)) ⟨p + 1, c2, cp2, (⟨B.l, B.p ++ PX[p], B.d⟩ : Bld).keep ((1 : Nat) : Int), k + PX[p].length + 4, rfl, rfl, rfl, rfl, rfl, ?_, ?_, ?_, ?_⟩ (by omega) zsb zpk
        · omega
        · exact (hB1.keep (n := 1)).mono (by omega)
        · exact .inl ⟨by omega, by omega⟩
        · exact ⟨fun _ => ht1, fun h => by omega⟩
    · have hpe : p = DX.length := by omega
      have hbx := pos_left la1 la2 hlt
      rw [pos_end (by omega), sdA_nil, getD_last hpe hlt, run_p] at ht1
      (try (refine st ?_; intros))
      refine WQ.next (PX.length - (p + 1)) ⟨p + 1, c, cp, ⟨B.l, B.p ++ PX[p], B.d⟩, k + PX[p].length, rfl, rfl, rfl, rfl, rfl, ?_, ?_, ?_, ?_⟩ (by omega) zsb zpk
      · omega
      · exact hB1
      · exact .inr ⟨by omega, by omega⟩
      · exact ⟨fun h => by omega, fun _ => ht1⟩
  · have hpe : p = DX.length + 1 := by omega
    have ht1 := ht.2 hpe
    have hBl := hB.len
    (try (refine st ?_; intros))
    refine WL.heap (H' := .blk bm (.cells [.slice c B.l.length cp, str B.p, str B.d].toArray 117 (0, 0)) :: .row c cp 81 3 (B.l.map Stp.cs) :: H) zpk ?_
    refine w_callF Try.func52 ?_ (hs := mkEnd_any B (by omega) _ _ _)
    rintro v m H1 ⟨rfl, rfl, c2, cp2, rfl⟩
    (try (refine st ?_; intros))
    rw [ht1]
    exact q_fin0 (H0 := .row c2 cp2 81 3 (B.close.l.map Stp.cs) :: H) ⟨rfl, c2, cp2, rfl, rfl⟩ (hd := zpk)
end Go.Proofs.Ytieangfnjflfmaa

/-
  The walks of the reference's Change and of the law's steps. No condition.
-/
namespace Go.Proofs.Ytieangfnjflfmaa
open Go Go.Eng
set_option maxRecDepth 100000
set_option maxHeartbeats 4000000
set_option linter.all false
attribute [local irreducible] WL WC WQ QFun QLoop Does Q1 QRound QAssign Go.Addr.add
attribute [local irreducible] strs jn putT dropT chGo chL matchL toks plainOf gapsOf putsOf dropsOf bytesOf sizesOf sdA listOf
theorem rChange_any {s t : Tx} (hs : s.length ≤ 65536) (ht : t.length ≤ 65536) (w0 : World) (m : Mem) (H : SHeap) : Does Try.prog 17 #[str s, str t] w0 m H
    (fun v m' H' => m.le m' ∧ ∃ c cp, v = .slice c (plainOf (chL s t)).length cp ∧ H' = .row c cp 81 3 ((plainOf (chL s t)).map Stp.cs) :: H) := by
  refine Does.of_body (args := [str s, str t]) Try.func17 rfl Try.ntmps17 rfl ?_
  have hXl := toks_length s
  have hYl := toks_length t
  have hXf := congrArg List.length (toks_join s)
  have hYf := congrArg List.length (toks_join t)
  have hXn := toks_some s
  have hF : chGo (toks s) (toks t) (matchL (toks s) (toks t)) 0 0 = chL s t := by unfold chL; rfl
  have hsz := chL_sizes hs ht
  have hM := match_ok (toks s) (toks t)
  have hMl := hM.len
  refine WC.newRow (T := 81) (sz := 3) ?_
  (try (refine st ?_; intros))
  refine w_callF Try.func31 ?_ (hs := rtoks_any s (by omega) _ _ _)
  rintro v m1 H1 ⟨hle1, ax, cx, rfl, rfl⟩
  (try (refine st ?_; intros))
  refine w_callF Try.func31 ?_ (hs := rtoks_any t (by omega) _ _ _)
  rintro v m2 H1 ⟨hle2, ay, cy, rfl, rfl⟩
  refine WL.rowCap (a := ax) (cap := cx) (T := 9) (sz := 1) (es := strs (toks s)) zhs ?_
  intro hcx
  refine WL.rowCap (a := ay) (cap := cy) (T := 9) (sz := 1) (es := strs (toks t)) zhs ?_
  intro hcy
  rw [strs_length] at hcx hcy
  (try (refine st ?_; intros))
  refine w_callF Try.func15 ?_ (hs := rmatch_any s t (by omega) (by omega) _ _ _)
  rintro v m3 H9 ⟨hle3, a1, c1, rfl, rfl⟩
  have hle := hle1.trans (hle2.trans hle3)
  generalize toks s = X at *
  generalize toks t = Y at *
  generalize chL s t = F at *
  generalize matchL X Y = M at *
  have hMm : (M.map prE).length = M.length := List.length_map _
  have hMe : M.map prE ++ [[.int .i64 (X.length : Int), .int .i64 (Y.length : Int)]] = (M ++ [(X.length, Y.length)]).map prE := by simp [prE]
  generalize M.map prE = ME at *
  (refine st ?_; intros; rename_i b9 a2 c2)
  rw [hMm, hMe]
  refine WC.weak zsb zpk (rchange_loop (X := X) (Y := Y) (M := M) (F := F) (a := a2) (cp := c2) (H := H) ⟨by omega, by omega, hcx⟩ ⟨by omega, by omega, hcy⟩ hXn hM (by omega) hF ?_)
  intro ac cc
  (try (refine st ?_; intros))
  refine w_callF Try.func37 ?_ (hs := say_any (fit_sized hsz) hsz _ _ _ (RowR.row (a := ac) zhs))
  rintro _ m _ ⟨rfl, q2, q4, q6, rfl, rfl⟩
  obtain ⟨la1, la2⟩ := said_len (gapsOf F)
  (try (refine st ?_; intros))
  refine w_callF Try.func36 ?_ (hs := rPlain_any la1 la2 (said_small hsz) _ _ _)
  rintro v m H1 ⟨rfl, c3, p3, rfl, rfl⟩
  rw [plain_said]
  (try (refine st ?_; intros))
  exact q_fin0 (H0 := .row c3 p3 81 3 ((plainOf F).map Stp.cs) :: H) ⟨hle, c3, p3, rfl, rfl⟩ (hd := zpk)
theorem steps_same {L : List Stp} {a b : Option Addr} {ca cb : Nat} {w0 : World} {m : Mem} {H : SHeap} (hl : L.length ≤ 4194304) (ha : RowR w0 m H 3 a (L.map Stp.cs)) (hb : RowR w0 m H 3 b (L.map Stp.cs)) :
    Does Try.prog 16 #[.slice a L.length ca, .slice b L.length cb] w0 m H (Gives (.bool true) m H) := by
  refine Does.of_body (args := [.slice a L.length ca, .slice b L.length cb]) Try.func16 rfl Try.ntmps16 rfl ?_
  have hll : (L.map Stp.cs).length = L.length := List.length_map _
  (try (refine st ?_; intros))
  refine WC.loopH [(13, .int .i64 ((0) : Int)), (12, .int .i64 (L.length : Int)), (0, .slice a L.length ca), (1, .slice b L.length cb)] ?_ ?_ (fun j r ds m' H' => ∃ i, j = L.length - i ∧ r = [(13, .int .i64 (i : Int)), (12, .int .i64 (L.length : Int)), (0, .slice a L.length ca), (1, .slice b L.length cb)] ∧ ds = [] ∧ m = m' ∧ H' = H ∧ (i ≤ L.length)) (L.length - (0)) ⟨0, rfl, rfl, rfl, rfl, rfl, Nat.zero_le _⟩ ?_
  · (repeat (first | exact Env.Sub.nil | refine Env.Sub.cons rfl ?_))
  · exact zpk
  rintro j r ds m' H' ⟨i, rfl, rfl, rfl, rfl, rfl, hi⟩
  by_cases hlt : i < L.length
  · obtain ⟨c, hc⟩ : ∃ c, L[i]? = some c := ⟨_, List.getElem?_eq_getElem hlt⟩
    have hgc : (L.map Stp.cs)[i]? = some [.int .i64 c.k, str c.d, str c.p] := by rw [List.getElem?_map, hc]; rfl
    have h1 : c.k = c.k := rfl
    have h2 : c.d = c.d := rfl
    have h3 : c.p = c.p := rfl
    generalize L.map Stp.cs = E at *
    refine WC.rSome ha (by omega) ?_
    rintro a0 rfl
    refine WC.rSome hb (by omega) ?_
    rintro b0 rfl
    (try (refine st ?_; intros))
    refine WQ.next (L.length - (i + 1)) ⟨i + 1, rfl, rfl, rfl, rfl, rfl, ?_⟩ (by omega) zsb zpk
    · omega
  · generalize H' = H at *
    (try (refine st ?_; intros))
    exact q_fin0 (H0 := H) (Gives.mk rfl) (hd := zpk)
end Go.Proofs.Ytieangfnjflfmaa

/-
  A walk's engine: arrays of two numbers compared. No condition.
-/
set_option linter.all false
namespace Go.Eng
open Go Go.RowKit
section
variable {P : Program} {ro : Option Nat} {n : Nat} {w0 : World} {Q : Exit → Act → World → Prop} {r : Env} {ds : List Nat} {m : Mem} {H : SHeap}
  {ops : Array Oper} {l : List Oper} {d : Nat} {ty : TypeId} {pos : String} {after : Array Edge} {x y : Operand} {t t' : TypeId}
theorem run_int {e : TypeId} {q : IntKind} (he : P.underlying e = some (.int q)) (d : Nat) (a b : Int) (w : World) : (Op.equalIn (d + 1) e (.int q a) (.int q b)).run P w = .ok (a == b) w := by
  simp [Op.equalIn, run_underlying he]
theorem run_eqA2 {e : TypeId} {q : IntKind} {a b a' b' : Int} (hu : P.underlying t = some (.array 2 e)) (he : P.underlying e = some (.int q)) (hz : sizeB P e = some 1) (ha : aggB P e = some false) (d : Nat) (w : World) :
    (Op.equalIn (d + 2) t (.agg #[.int q a, .int q b]) (.agg #[.int q a', .int q b'])).run P w = .ok (a == a' && b == b') w := by
  have p0 : ∀ (u v : Value) (w : World), (part e #[u, v] (0 * 1)).run P w = .ok u w := fun u v w => run_part (by unfold partB; simp [ha]) w
  have p1 : ∀ (u v : Value) (w : World), (part e #[u, v] (1 * 1)).run P w = .ok v w := fun u v w => run_part (by unfold partB; simp [ha]) w
  have pi : ∀ (u v : Int) (w : World), (Op.equalIn (d + 1) e (.int q u) (.int q v)).run P w = .ok (u == v) w := fun u v w => run_int he d u v w
  show (Op.equalIn ((d + 1) + 1) t _ _).run P w = _
  generalize d + 1 = D at *
  simp only [Op.equalIn, Sem.run_bind, run_underlying hu, Result.andThen_ok, run_size hz]
  simp only [Std.Legacy.Range.forIn_eq_forIn_range', Std.Legacy.Range.size, Nat.sub_zero]
  simp only [show List.range' 0 ((2 + 1 - 1) / 1) 1 = [0, 1] from rfl, List.forIn_cons, List.forIn_nil]
  simp only [Sem.run_bind, p0, p1, Result.andThen_ok, pi]
  cases h1 : (a == a') <;> cases h2 : (b == b') <;> simp [h2, p1, pi]
theorem WL.neqA2 {e : TypeId} {q : IntKind} {a b a' b' : Int} (hx : r.ev x = some (.agg #[.int q a, .int q b])) (hy : r.ev y = some (.agg #[.int q a', .int q b'])) (hu : P.underlying t = some (.array 2 e)) (he : P.underlying e = some (.int q)) (hz : sizeB P e = some 1) (ha : aggB P e = some false)
    (hg : P.eqGuardType P.depth t = false) (hd : Nat.blt d n = true) (h : WL P ro n w0 ops Q l ((d, .bool (!(dcd (a = a' ∧ b = b')))) :: r) ds m H) : WL P ro n w0 ops Q (⟨some d, .binOp .neq t x y t', ty, pos, after, none⟩ :: l) r ds m H := by
  have e1 : (a == a' && b == b') = dcd (a = a' ∧ b = b') := by
    by_cases hp : a = a' ∧ b = b'
    · rw [dcd_true hp]; obtain ⟨rfl, rfl⟩ := hp; simp
    · rw [dcd_false hp]
      simp only [Bool.and_eq_false_iff, beq_eq_false_iff_ne]
      omega
  refine .val hd (fun _ h => by cases h) (fun tmps w ho _ => ?_) h
  have h1 := run_eqA2 (t := t) (a := a) (b := b) (a' := a') (b' := b') hu he hz ha 9998 w
  have h2 := eq_guard (P := P) (cs := #[.int q a, .int q b]) (y := .agg #[.int q a', .int q b']) (vx := x) (vy := y) .neq hg w
  rw [e1] at h1
  simp only [execOp, ho.ev hx, ho.ev hy, Sem.run_bind, h2, Result.andThen_ok]
  simp [binOp, Op.equal, show Op.maxDepth = 9998 + 2 from rfl, h1]
end
end Go.Eng

/-
  The walk of the law DraftMatches. No condition.
-/
namespace Go.Eng
open Go Go.RowKit
/-- a match whose first pairs are spoiled -/
def spoil (M : List (Nat × Nat)) (i : Nat) : List (List Value) := List.replicate i [.int .i64 (-7), .int .i64 (-7)] ++ (M.drop i).map prE
theorem spoil_length {M : List (Nat × Nat)} {i : Nat} (h : i ≤ M.length) : (spoil M i).length = M.length := by
  unfold spoil
  rw [List.length_append, List.length_replicate, List.length_map, List.length_drop]; omega
theorem spoil_get {M : List (Nat × Nat)} {i : Nat} {p : Nat × Nat} (h : M[i]? = some p) : (spoil M i)[i]? = some [.int .i64 (p.1 : Int), .int .i64 (p.2 : Int)] := by
  unfold spoil
  rw [List.getElem?_append_right (by simp), List.length_replicate, Nat.sub_self, List.getElem?_map, List.getElem?_drop, Nat.add_zero, h]; rfl
theorem spoil_set {M : List (Nat × Nat)} {i : Nat} (h : i < M.length) : (spoil M i).set i [.int .i64 (-7), .int .i64 (-7)] = spoil M (i + 1) := by
  unfold spoil
  rw [List.set_append_right _ _ (by simp), List.length_replicate, Nat.sub_self, List.drop_eq_getElem_cons h, List.map_cons, List.set_cons_zero, List.replicate_succ', List.append_assoc]
  rfl
theorem spoil_zero (M : List (Nat × Nat)) : spoil M 0 = M.map prE := by unfold spoil; simp
theorem take_short {s : Tx} (n : Nat) (h : n ≤ 65536) : (s.take n).length ≤ 65536 := by rw [List.length_take]; omega
end Go.Eng
namespace Go.Proofs.Ytieangfnjflfmaa
open Go Go.Eng
set_option maxRecDepth 100000
set_option maxHeartbeats 4000000
set_option linter.all false
attribute [local irreducible] WL WC WQ QFun QLoop Does Q1 QRound QAssign Go.Addr.add
attribute [local irreducible] spoil matchL toks plainOf chL
theorem sq_D41_1 {G : Prop} (h : G := by (repeat (first | (refine sp ?_; (repeat intro zzc)) | (refine iB_neq rfl ?_; refine WL.neqA2 (q := .i64) rfl rfl rfl rfl rfl rfl (by kernel_rfl) rfl ?_))); exact WQ.q1 rfl) : G := h
theorem st_D41_1 {G G' : Prop} (next : G') (h : Bx G' → G := by intro zzn; (first | ((refine st ?_; (repeat intro zzc)); (try ((first | (refine iB_neq rfl ?_; refine WL.neqA2 (q := .i64) rfl rfl rfl rfl rfl rfl (by kernel_rfl) rfl ?_) | ((refine iDraw ?_; (first | refine WC.drawAll rfl (by decide +kernel) ?_ | refine WC.draw 1 rfl (by decide +kernel) ?_ | refine WC.draw 2 rfl (by decide +kernel) ?_ | refine WC.draw 3 rfl (by decide +kernel) ?_ | refine WC.draw 4 rfl (by decide +kernel) ?_ | refine WC.draw 5 rfl (by decide +kernel) ?_ | refine WC.draw 6 rfl (by decide +kernel) ?_ | refine WC.draw 7 rfl (by decide +kernel) ?_ | refine WC.draw 8 rfl (by decide +kernel) ?_ | refine WC.draw 9 rfl (by decide +kernel) ?_ | refine WC.draw 10 rfl (by decide +kernel) ?_ | refine WC.draw 11 rfl (by decide +kernel) ?_ | refine WC.draw 12 rfl (by decide +kernel) ?_ | refine WC.draw 13 rfl (by decide +kernel) ?_ | refine WC.draw 14 rfl (by decide +kernel) ?_ | refine WC.draw 15 rfl (by decide +kernel) ?_ | refine WC.draw 16 rfl (by decide +kernel) ?_ | refine WC.draw 17 rfl (by decide +kernel) ?_ | refine WC.draw 18 rfl (by decide +kernel) ?_ | refine WC.draw 19 rfl (by decide +kernel) ?_ | refine WC.draw 20 rfl (by decide +kernel) ?_ | refine WC.draw 21 rfl (by decide +kernel) ?_ | refine WC.draw 22 rfl (by decide +kernel) ?_ | refine WC.draw 23 rfl (by decide +kernel) ?_ | refine WC.draw 24 rfl (by decide +kernel) ?_)); (repeat (refine WD.cons rfl (fun c h => by cases h) sq_D41_1 ?_)); refine WD.nil ?_)); (try (refine st ?_; (repeat intro zzc)))))) | ((first | (refine iB_neq rfl ?_; refine WL.neqA2 (q := .i64) rfl rfl rfl rfl rfl rfl (by kernel_rfl) rfl ?_) | ((refine iDraw ?_; (first | refine WC.drawAll rfl (by decide +kernel) ?_ | refine WC.draw 1 rfl (by decide +kernel) ?_ | refine WC.draw 2 rfl (by decide +kernel) ?_ | refine WC.draw 3 rfl (by decide +kernel) ?_ | refine WC.draw 4 rfl (by decide +kernel) ?_ | refine WC.draw 5 rfl (by decide +kernel) ?_ | refine WC.draw 6 rfl (by decide +kernel) ?_ | refine WC.draw 7 rfl (by decide +kernel) ?_ | refine WC.draw 8 rfl (by decide +kernel) ?_ | refine WC.draw 9 rfl (by decide +kernel) ?_ | refine WC.draw 10 rfl (by decide +kernel) ?_ | refine WC.draw 11 rfl (by decide +kernel) ?_ | refine WC.draw 12 rfl (by decide +kernel) ?_ | refine WC.draw 13 rfl (by decide +kernel) ?_ | refine WC.draw 14 rfl (by decide +kernel) ?_ | refine WC.draw 15 rfl (by decide +kernel) ?_ | refine WC.draw 16 rfl (by decide +kernel) ?_ | refine WC.draw 17 rfl (by decide +kernel) ?_ | refine WC.draw 18 rfl (by decide +kernel) ?_ | refine WC.draw 19 rfl (by decide +kernel) ?_ | refine WC.draw 20 rfl (by decide +kernel) ?_ | refine WC.draw 21 rfl (by decide +kernel) ?_ | refine WC.draw 22 rfl (by decide +kernel) ?_ | refine WC.draw 23 rfl (by decide +kernel) ?_ | refine WC.draw 24 rfl (by decide +kernel) ?_)); (repeat (refine WD.cons rfl (fun c h => by cases h) sq_D41_1 ?_)); refine WD.nil ?_)); (try (refine st ?_; (repeat intro zzc))))); (repeat ((first | (refine iB_neq rfl ?_; refine WL.neqA2 (q := .i64) rfl rfl rfl rfl rfl rfl (by kernel_rfl) rfl ?_) | ((refine iDraw ?_; (first | refine WC.drawAll rfl (by decide +kernel) ?_ | refine WC.draw 1 rfl (by decide +kernel) ?_ | refine WC.draw 2 rfl (by decide +kernel) ?_ | refine WC.draw 3 rfl (by decide +kernel) ?_ | refine WC.draw 4 rfl (by decide +kernel) ?_ | refine WC.draw 5 rfl (by decide +kernel) ?_ | refine WC.draw 6 rfl (by decide +kernel) ?_ | refine WC.draw 7 rfl (by decide +kernel) ?_ | refine WC.draw 8 rfl (by decide +kernel) ?_ | refine WC.draw 9 rfl (by decide +kernel) ?_ | refine WC.draw 10 rfl (by decide +kernel) ?_ | refine WC.draw 11 rfl (by decide +kernel) ?_ | refine WC.draw 12 rfl (by decide +kernel) ?_ | refine WC.draw 13 rfl (by decide +kernel) ?_ | refine WC.draw 14 rfl (by decide +kernel) ?_ | refine WC.draw 15 rfl (by decide +kernel) ?_ | refine WC.draw 16 rfl (by decide +kernel) ?_ | refine WC.draw 17 rfl (by decide +kernel) ?_ | refine WC.draw 18 rfl (by decide +kernel) ?_ | refine WC.draw 19 rfl (by decide +kernel) ?_ | refine WC.draw 20 rfl (by decide +kernel) ?_ | refine WC.draw 21 rfl (by decide +kernel) ?_ | refine WC.draw 22 rfl (by decide +kernel) ?_ | refine WC.draw 23 rfl (by decide +kernel) ?_ | refine WC.draw 24 rfl (by decide +kernel) ?_)); (repeat (refine WD.cons rfl (fun c h => by cases h) sq_D41_1 ?_)); refine WD.nil ?_)); (try (refine st ?_; (repeat intro zzc))))); (repeat revert zzc); exact zzn.out) : G := h ⟨next⟩
theorem matches_inner {M : List (Nat × Nat)} {a w : Option Addr} {cp wc : Nat} {v0 v1 vr : Value} {w0 : World} {m : Mem} {H : SHeap} {Q : Exit → Act → World → Prop} (hM : M.length ≤ 4194304)
    (hK : WQ 128 w0 Q (.exit 2) [(11, .slice a M.length cp), (9, .slice w M.length wc), (10, vr), (0, v0), (1, v1)] [] m (.row a cp 44 2 (spoil M M.length) :: .row w wc 44 2 (M.map prE) :: H)) :
    WC Try.prog none 128 w0 ((loopsIn (Try.f5.body.getD .skip)).getD 1 .skip) Q [(85, .int .i64 0), (84, .int .i64 (M.length : Int)), (11, .slice a M.length cp), (9, .slice w M.length wc), (10, vr), (0, v0), (1, v1)] [] m
      (.row a cp 44 2 (M.map prE) :: .row w wc 44 2 (M.map prE) :: H) := by
  have hml : (M.map prE).length = M.length := List.length_map _
  rw [show (.row a cp 44 2 (M.map prE) :: .row w wc 44 2 (M.map prE) :: H : SHeap) = .row a cp 44 2 (spoil M 0) :: .row w wc 44 2 (M.map prE) :: H by rw [spoil_zero]]
  refine WC.loopH [(85, .int .i64 ((0) : Int)), (84, .int .i64 (M.length : Int)), (11, .slice a M.length cp), (9, .slice w M.length wc), (10, vr), (0, v0), (1, v1)] ?_ ?_ (fun j r ds m' H' => ∃ i, j = M.length - i ∧ r = [(85, .int .i64 (i : Int)), (84, .int .i64 (M.length : Int)), (11, .slice a M.length cp), (9, .slice w M.length wc), (10, vr), (0, v0), (1, v1)] ∧ ds = [] ∧ m = m' ∧ H' = .row a cp 44 2 (spoil M i) :: .row w wc 44 2 (M.map prE) :: H ∧ (i ≤ M.length)) (M.length - (0)) ⟨0, rfl, rfl, rfl, rfl, rfl, Nat.zero_le _⟩ ?_
  · (repeat (first | exact Env.Sub.nil | refine Env.Sub.cons rfl ?_))
  · exact zpk
  rintro j r ds m' H' ⟨i, rfl, rfl, rfl, rfl, rfl, hi⟩
  by_cases hlt : i < M.length
  · obtain ⟨p, hp⟩ : ∃ p, M[i]? = some p := ⟨_, List.getElem?_eq_getElem hlt⟩
    have hgp : (M.map prE)[i]? = some [.int .i64 (p.1 : Int), .int .i64 (p.2 : Int)] := by rw [List.getElem?_map, hp]; rfl
    have hgs := spoil_get hp
    have hset := spoil_set hlt
    have hsl := spoil_length hi
    have hpp : (p.1 : Int) = (p.1 : Int) ∧ (p.2 : Int) = (p.2 : Int) := ⟨rfl, rfl⟩
    generalize M.map prE = ME at *
    generalize hSE : spoil M i = SE at *
    refine WC.rowSome (a := a) (es := SE) zhs (by omega) ?_
    rintro a0 rfl
    refine WC.rowSome (a := w) (es := ME) zhs (by omega) ?_
    rintro b0 rfl
    (try (refine st_D41_1 ?_; intros))
    rw [hset]
    refine WQ.next (M.length - (i + 1)) ⟨i + 1, rfl, rfl, rfl, rfl, rfl, ?_⟩ (by omega) zsb zpk
    · omega
  · obtain rfl : i = M.length := by omega
    (try (refine st_D41_1 ?_; intros))
    exact WQ.weak zsb zpk hK
end Go.Proofs.Ytieangfnjflfmaa

/-
  The walk of the law's cut. No condition.
-/
namespace Go.Proofs.Ytieangfnjflfmaa
open Go Go.Eng
set_option maxRecDepth 100000
set_option maxHeartbeats 4000000
set_option linter.all false
attribute [local irreducible] WL WC WQ QFun QLoop Does Q1 QRound QAssign Go.Addr.add
theorem lcut_any (s : List UInt8) (hs : s.length ≤ 4194304) (w0 : World) (m : Mem) (H : SHeap) : Does Try.prog 10 #[str s] w0 m H (Gives (str (s.take 3000)) m H) := by
  refine Does.of_body (args := [str s]) Try.func10 rfl Try.ntmps10 rfl ?_
  by_cases h : 3000 < s.length
  · (try (refine st ?_; intros))
    exact q_fin0 (H0 := H) (Gives.mk rfl) (hd := zpk)
  · (try (refine st ?_; intros))
    exact q_fin0 (H0 := H) (Gives.mk (by rw [List.take_of_length_le (by omega)])) (hd := zpk)
end Go.Proofs.Ytieangfnjflfmaa

/-
  The walk of the law DraftMatches, whole. No condition.
-/
namespace Go.Proofs.Ytieangfnjflfmaa
open Go Go.Eng
set_option maxRecDepth 100000
set_option maxHeartbeats 4000000
set_option linter.all false
attribute [local irreducible] WL WC WQ QFun QLoop Does Q1 QRound QAssign Go.Addr.add
attribute [local irreducible] spoil matchL toks plainOf chL
theorem draftMatches_any (s t : Tx) (hs : s.length ≤ 9223372036854775807) (ht : t.length ≤ 9223372036854775807) (w0 : World) (m : Mem) (H : SHeap) :
    Does Try.prog 5 #[str s, str t] w0 m H (fun v m' _ => v = .bool true ∧ m.le m') := by
  refine Does.of_body (args := [str s, str t]) Try.func5 rfl Try.ntmps5 rfl ?_
  (try (refine st ?_; intros))
  refine w_callF Try.func7 ?_ (hs := wakes_any _ _ _)
  rintro v m1 H1 ⟨hle1, rfl, rfl⟩
  by_cases hlong : Long [s, t]
  · have hc : 65536 < s.length ∨ (¬ 65536 < s.length ∧ 65536 < t.length) := by
      obtain ⟨x, hx, hx2⟩ := hlong
      simp only [List.mem_cons, List.not_mem_nil, or_false] at hx
      rcases hx with rfl | rfl <;> omega
    rcases hc with h1 | ⟨h1, h2⟩
    all_goals
      (try (refine st ?_; intros))
      refine w_callF Try.func13 ?_ (hs := dMatch_long hlong _ _ _)
      rintro v mB HB ⟨rfl, rfl, rfl⟩
      (try (refine st ?_; intros))
      refine w_callF Try.func14 ?_ (hs := dChange_long hlong _ _ _)
      rintro v mB HB ⟨rfl, rfl, rfl⟩
      (try (refine st ?_; intros))
      refine w_callF Try.func7 ?_ (hs := wakes_any _ _ _)
      rintro v mC HC ⟨hleC, rfl, rfl⟩
      (try (refine st ?_; intros))
      exact q_fin0 (H0 := HC) ⟨rfl, hle1.trans hleC⟩ (hd := zpk)
  · have hls : s.length ≤ 65536 := Nat.le_of_not_lt fun h => hlong ⟨s, by simp, h⟩
    have hlt : t.length ≤ 65536 := Nat.le_of_not_lt fun h => hlong ⟨t, by simp, h⟩
    clear hlong hs ht
    have hS := take_short (s := s) 3000 (by decide)
    have hT := take_short (s := t) 3000 (by decide)
    (try (refine st ?_; intros))
    refine w_callF Try.func10 ?_ (hs := lcut_any s (by omega) _ _ _)
    rintro v m9 H9 ⟨rfl, rfl, rfl⟩
    (try (refine st ?_; intros))
    refine w_callF Try.func10 ?_ (hs := lcut_any t (by omega) _ _ _)
    rintro v m9 H9 ⟨rfl, rfl, rfl⟩
    generalize s.take 3000 = S at *
    generalize t.take 3000 = T at *
    have hns : ¬ Long [S, T] := by
      rintro ⟨x, hx, hx2⟩
      simp only [List.mem_cons, List.not_mem_nil, or_false] at hx
      rcases hx with rfl | rfl <;> omega
    have hMl : (matchL (toks S) (toks T)).length ≤ 65536 := by
      have h1 := (match_ok (toks S) (toks T)).len
      have h2 := toks_length S
      omega
    (try (refine st ?_; intros))
    refine w_callF Try.func15 ?_ (hs := rmatch_any S T (by omega) (by omega) _ _ _)
    rintro v m2 H2 ⟨hle2, w, wc, rfl, rfl⟩
    (try (refine st ?_; intros))
    have hle := hle1.trans hle2
    clear hle1 hle2 hls hlt
    refine WC.loopH [(10, .int .i64 ((0) : Int)), (9, .slice w (matchL (toks S) (toks T)).length wc), (0, str S), (1, str T)] ?_ ?_ (fun j r ds m' H' => ∃ (k : Nat) (mm : Mem), j = 2 - k ∧ r = [(10, .int .i64 (k : Int)), (9, .slice w (matchL (toks S) (toks T)).length wc), (0, str S), (1, str T)] ∧ ds = [] ∧ mm = m' ∧ H' = .row w wc 44 2 ((matchL (toks S) (toks T)).map prE) :: H9 ∧ (k ≤ 2) ∧ (m.le mm)) (2 - (0)) ⟨0, m2, rfl, rfl, rfl, rfl, rfl, by omega, hle⟩ ?_
    · (repeat (first | exact Env.Sub.nil | refine Env.Sub.cons rfl ?_))
    · exact zpk
    rintro j r ds m' H' ⟨k, mm, rfl, rfl, rfl, rfl, rfl, hk, hle⟩
    by_cases hlt : k < 2
    · (try (refine st ?_; intros))
      refine w_callF Try.func13 ?_ (hs := dMatch_any hns _ _ _)
      rintro v m3 H3 ⟨hle3, a, cp, rfl, rfl⟩
      generalize matchL (toks S) (toks T) = M at *
      have hsl := spoil_length (M := M) (Nat.le_refl _)
      (try (refine st ?_; intros))
      refine WC.weak zsb zpk (matches_inner (M := M) (H := H9) (by omega) ?_)
      (refine st ?_; intros; rename_i b9)
      refine WL.appendR (es := spoil M M.length) (es' := [[.int .i64 0, .int .i64 0], [.int .i64 0, .int .i64 0]]) (by' := 16) rfl rfl rfl rfl (by (repeat (first | exact Out.here | apply Out.there))) (rowR_blk (T := 44) (fz := (0, 0)) (L := [.int .i64 0, .int .i64 0, .int .i64 0, .int .i64 0]) zhs rfl (by simp)) (fun q hq => by simp only [List.mem_cons, List.not_mem_nil, or_false, or_self] at hq; subst hq; rfl) (by simp) rfl rfl rfl rfl hsl.symm rfl (by rw [hsl]; simp only [List.length_cons, List.length_nil]; omega) (by omega) rfl ?_
      intro a3 cp3
      rw [hsl]
      rw [show M.length + [[Value.int .i64 0, .int .i64 0], [.int .i64 0, .int .i64 0]].length = M.length + 2 from rfl]
      (try (refine st ?_; intros))
      rw [show (k : Int) + 1 = ((k + 1 : Nat) : Int) by omega]
      refine WQ.next (2 - (k + 1)) ⟨k + 1, m3, rfl, rfl, rfl, rfl, rfl, ?_, ?_⟩ (by omega) zsb zpk
      · omega
      · exact hle.trans hle3
    · (try (refine st ?_; intros))
      refine w_callF Try.func14 ?_ (hs := dChange_any hns _ _ _)
      rintro v m3 H3 ⟨hle3, a, cp, rfl, rfl⟩
      (try (refine st ?_; intros))
      refine w_callF Try.func17 ?_ (hs := rChange_any hS hT _ _ _)
      rintro v m4 H4 ⟨hle4, b, cb, rfl, rfl⟩
      have hfl := (fit_plain (chL_sizes hS hT)).len
      generalize plainOf (chL S T) = L at *
      (try (refine st ?_; intros))
      refine w_callF Try.func16 ?_ (hs := steps_same (L := L) (by omega) (RowR.row (T := 55) (cap := cp) zhs) (RowR.row (T := 81) (cap := cb) zhs))
      rintro v mD HD ⟨rfl, rfl, rfl⟩
      (try (refine st ?_; intros))
      refine w_callF Try.func7 ?_ (hs := wakes_any _ _ _)
      rintro v mC HC ⟨hleC, rfl, rfl⟩
      (try (refine st ?_; intros))
      exact q_fin0 (H0 := H9) ⟨rfl, hle.trans (hle3.trans (hle4.trans hleC))⟩ (hd := zpk)
end Go.Proofs.Ytieangfnjflfmaa

