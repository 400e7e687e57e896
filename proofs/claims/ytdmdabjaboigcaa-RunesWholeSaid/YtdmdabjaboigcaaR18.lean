/-
  The walks of runes.To and of the law RunesStrings. No condition.
-/
import Derived.Test.YtdmdabjaboigcaaR17
namespace Go.Proofs.Ytdmdabjaboigcaa
open Go Go.Eng
set_option maxRecDepth 100000
set_option maxHeartbeats 4000000
set_option linter.all false
attribute [local irreducible] WL WC WQ QFun QLoop Does Q1 QRound QAssign Go.Addr.add
theorem to_any (l : List UInt8) (hl : l.length ≤ 5000000000000) (w0 : World) (m : Mem) (H : SHeap) :
    Does Try.prog 41 #[str l] w0 m H (MakesRow 21 1 ((pieces l).map fun p => rV p.r) m H) := by
  refine Does.of_body (args := [str l]) Try.func41 rfl Try.ntmps41 rfl ?_
  have hpl := pieces_length l
  (refine st ?_; intros; rename_i it)
  refine WC.newRow (T := 21) (sz := 1) ?_
  refine WC.loopH [(7, .pointer (some ⟨it, 0, none⟩)), (3, .slice (none) (0) (0))] ?_ ?_ (fun j r ds m' H' => ∃ k b cb n es pre, j = l.length - k ∧ r = [(7, .pointer (some ⟨it, 0, none⟩)), (3, .slice b n cb)] ∧ ds = [] ∧ m = m' ∧ H' = .row b cb 21 1 es :: .blk it (.stringIter ⟨l.toArray⟩ k) :: H ∧ (n = es.length) ∧ (es = pre.map (fun p : Pc => rV p.r)) ∧ (pieces l = pre ++ from_ l k)) (l.length - (0)) ⟨0, none, 0, 0, [], [], rfl, rfl, rfl, rfl, rfl, rfl, rfl, rfl⟩ ?_
  · (repeat (first | exact Env.Sub.nil | refine Env.Sub.cons rfl ?_))
  · exact (fun w h => Pick.sat (by iterate 60 (try (first | exact Pick.all | (apply Pick.take; (· (repeat (first | exact Out.here | apply Out.there)))) | apply Pick.drop))) h)
  rintro j r ds m' H' ⟨k, b, cb, n, es, pre, rfl, rfl, rfl, rfl, rfl, rfl, hes, hp⟩
  have hpre : pre.length ≤ l.length := by have := congrArg List.length hp; simp at this; omega
  have hel : es.length = pre.length := by simp [hes]
  by_cases hk : k < l.length
  · have hw := readP_w hk
    rw [from_cons hk] at hp
    have hwe := readP_w_eq l k
    (refine st ?_; intros; rename_i b1 b2 cb2)
    refine WQ.next (l.length - (k + (dl (l.drop k)).2)) ⟨k + (dl (l.drop k)).2, b2, cb2, _, _, pre ++ [readP l k], rfl, rfl, rfl, rfl, rfl, ?_, ?_, ?_⟩ (by omega) (by (repeat (first | exact Env.Sub.nil | refine Env.Sub.cons rfl ?_))) (fun w h => Pick.sat (by iterate 60 (try (first | exact Pick.all | (apply Pick.take; (· (repeat (first | exact Out.here | apply Out.there)))) | apply Pick.drop))) h)
    · simp
    · simp [hes, rV, readP_r_eq]
    · rw [hp, hwe]; simp
  · rw [from_nil hk, List.append_nil] at hp
    (try (refine st ?_; intros))
    refine q_fin0 (H0 := .row b cb 21 1 _ :: H) ⟨b, cb, ?_, rfl, ?_⟩ (hd := (fun w h => Pick.sat (by iterate 60 (try (first | exact Pick.all | (apply Pick.take; (· (repeat (first | exact Out.here | apply Out.there)))) | apply Pick.drop))) h))
    · rw [hp, ← hes]
    · rw [hp, ← hes]
theorem encode_same {x : Int} : fmb (rn x) = (Utf8.encode x).data.toList := (encode_eq x).symm
theorem encode_again {x : Int} : fmb (rn x) = (Utf8.encode (rn x : Int)).data.toList := by rw [encode_eq, rn_nat (rn_ok x)]
theorem to_es {l : List UInt8} {es : List (List Value)} (he : ((pieces l).map fun p => rV p.r) = es) (hl : l.length ≤ 5000000000000) (w0 : World) (m : Mem) (H : SHeap) :
    Does Try.prog 41 #[str l] w0 m H (MakesRow 21 1 es m H) := by subst he; exact to_any l hl w0 m H
theorem sq_R18_1 {G : Prop} (h : G := by (repeat (first | (refine sp ?_; (repeat intro zzc)) | (refine iF 15 rfl ?_; refine w_callG Try.func15 ?_ (hs := wakes_any _ _ _)) | (refine iF 34 rfl ?_; refine w_callG Try.func34 ?_ (hs := width_any _ _ _ _)) | (refine iF 36 rfl ?_; refine w_callG Try.func36 ?_ (hs := encode_any _ _ _ _)) | (refine iF 32 rfl ?_; refine w_callG Try.func32 ?_ (hs := of_any (by omega) (by assumption))) | (refine iF 22 rfl ?_; refine w_callG Try.func22 ?_ (hs := right_any _ (by omega) _ _ _)) | (refine iConv rfl ?_; refine w_runesR (by assumption) ?_))); exact WQ.q1 rfl) : G := h
theorem st_R18_1 {G G' : Prop} (next : G') (h : Bx G' → G := by intro zzn; (first | ((refine st ?_; (repeat intro zzc)); (try ((first | (refine iF 15 rfl ?_; refine w_callG Try.func15 ?_ (hs := wakes_any _ _ _)) | (refine iF 34 rfl ?_; refine w_callG Try.func34 ?_ (hs := width_any _ _ _ _)) | (refine iF 36 rfl ?_; refine w_callG Try.func36 ?_ (hs := encode_any _ _ _ _)) | (refine iF 32 rfl ?_; refine w_callG Try.func32 ?_ (hs := of_any (by omega) (by assumption))) | (refine iF 22 rfl ?_; refine w_callG Try.func22 ?_ (hs := right_any _ (by omega) _ _ _)) | (refine iConv rfl ?_; refine w_runesR (by assumption) ?_) | ((refine iDraw ?_; (first | refine WC.drawAll rfl (by decide +kernel) ?_ | refine WC.draw 1 rfl (by decide +kernel) ?_ | refine WC.draw 2 rfl (by decide +kernel) ?_ | refine WC.draw 3 rfl (by decide +kernel) ?_ | refine WC.draw 4 rfl (by decide +kernel) ?_ | refine WC.draw 5 rfl (by decide +kernel) ?_ | refine WC.draw 6 rfl (by decide +kernel) ?_ | refine WC.draw 7 rfl (by decide +kernel) ?_ | refine WC.draw 8 rfl (by decide +kernel) ?_ | refine WC.draw 9 rfl (by decide +kernel) ?_ | refine WC.draw 10 rfl (by decide +kernel) ?_ | refine WC.draw 11 rfl (by decide +kernel) ?_ | refine WC.draw 12 rfl (by decide +kernel) ?_ | refine WC.draw 13 rfl (by decide +kernel) ?_ | refine WC.draw 14 rfl (by decide +kernel) ?_ | refine WC.draw 15 rfl (by decide +kernel) ?_ | refine WC.draw 16 rfl (by decide +kernel) ?_ | refine WC.draw 17 rfl (by decide +kernel) ?_ | refine WC.draw 18 rfl (by decide +kernel) ?_ | refine WC.draw 19 rfl (by decide +kernel) ?_ | refine WC.draw 20 rfl (by decide +kernel) ?_ | refine WC.draw 21 rfl (by decide +kernel) ?_ | refine WC.draw 22 rfl (by decide +kernel) ?_ | refine WC.draw 23 rfl (by decide +kernel) ?_ | refine WC.draw 24 rfl (by decide +kernel) ?_)); (repeat (refine WD.cons rfl (fun c h => by cases h) sq_R18_1 ?_)); refine WD.nil ?_)); (try (refine st ?_; (repeat intro zzc)))))) | ((first | (refine iF 15 rfl ?_; refine w_callG Try.func15 ?_ (hs := wakes_any _ _ _)) | (refine iF 34 rfl ?_; refine w_callG Try.func34 ?_ (hs := width_any _ _ _ _)) | (refine iF 36 rfl ?_; refine w_callG Try.func36 ?_ (hs := encode_any _ _ _ _)) | (refine iF 32 rfl ?_; refine w_callG Try.func32 ?_ (hs := of_any (by omega) (by assumption))) | (refine iF 22 rfl ?_; refine w_callG Try.func22 ?_ (hs := right_any _ (by omega) _ _ _)) | (refine iConv rfl ?_; refine w_runesR (by assumption) ?_) | ((refine iDraw ?_; (first | refine WC.drawAll rfl (by decide +kernel) ?_ | refine WC.draw 1 rfl (by decide +kernel) ?_ | refine WC.draw 2 rfl (by decide +kernel) ?_ | refine WC.draw 3 rfl (by decide +kernel) ?_ | refine WC.draw 4 rfl (by decide +kernel) ?_ | refine WC.draw 5 rfl (by decide +kernel) ?_ | refine WC.draw 6 rfl (by decide +kernel) ?_ | refine WC.draw 7 rfl (by decide +kernel) ?_ | refine WC.draw 8 rfl (by decide +kernel) ?_ | refine WC.draw 9 rfl (by decide +kernel) ?_ | refine WC.draw 10 rfl (by decide +kernel) ?_ | refine WC.draw 11 rfl (by decide +kernel) ?_ | refine WC.draw 12 rfl (by decide +kernel) ?_ | refine WC.draw 13 rfl (by decide +kernel) ?_ | refine WC.draw 14 rfl (by decide +kernel) ?_ | refine WC.draw 15 rfl (by decide +kernel) ?_ | refine WC.draw 16 rfl (by decide +kernel) ?_ | refine WC.draw 17 rfl (by decide +kernel) ?_ | refine WC.draw 18 rfl (by decide +kernel) ?_ | refine WC.draw 19 rfl (by decide +kernel) ?_ | refine WC.draw 20 rfl (by decide +kernel) ?_ | refine WC.draw 21 rfl (by decide +kernel) ?_ | refine WC.draw 22 rfl (by decide +kernel) ?_ | refine WC.draw 23 rfl (by decide +kernel) ?_ | refine WC.draw 24 rfl (by decide +kernel) ?_)); (repeat (refine WD.cons rfl (fun c h => by cases h) sq_R18_1 ?_)); refine WD.nil ?_)); (try (refine st ?_; (repeat intro zzc))))); (repeat ((first | (refine iF 15 rfl ?_; refine w_callG Try.func15 ?_ (hs := wakes_any _ _ _)) | (refine iF 34 rfl ?_; refine w_callG Try.func34 ?_ (hs := width_any _ _ _ _)) | (refine iF 36 rfl ?_; refine w_callG Try.func36 ?_ (hs := encode_any _ _ _ _)) | (refine iF 32 rfl ?_; refine w_callG Try.func32 ?_ (hs := of_any (by omega) (by assumption))) | (refine iF 22 rfl ?_; refine w_callG Try.func22 ?_ (hs := right_any _ (by omega) _ _ _)) | (refine iConv rfl ?_; refine w_runesR (by assumption) ?_) | ((refine iDraw ?_; (first | refine WC.drawAll rfl (by decide +kernel) ?_ | refine WC.draw 1 rfl (by decide +kernel) ?_ | refine WC.draw 2 rfl (by decide +kernel) ?_ | refine WC.draw 3 rfl (by decide +kernel) ?_ | refine WC.draw 4 rfl (by decide +kernel) ?_ | refine WC.draw 5 rfl (by decide +kernel) ?_ | refine WC.draw 6 rfl (by decide +kernel) ?_ | refine WC.draw 7 rfl (by decide +kernel) ?_ | refine WC.draw 8 rfl (by decide +kernel) ?_ | refine WC.draw 9 rfl (by decide +kernel) ?_ | refine WC.draw 10 rfl (by decide +kernel) ?_ | refine WC.draw 11 rfl (by decide +kernel) ?_ | refine WC.draw 12 rfl (by decide +kernel) ?_ | refine WC.draw 13 rfl (by decide +kernel) ?_ | refine WC.draw 14 rfl (by decide +kernel) ?_ | refine WC.draw 15 rfl (by decide +kernel) ?_ | refine WC.draw 16 rfl (by decide +kernel) ?_ | refine WC.draw 17 rfl (by decide +kernel) ?_ | refine WC.draw 18 rfl (by decide +kernel) ?_ | refine WC.draw 19 rfl (by decide +kernel) ?_ | refine WC.draw 20 rfl (by decide +kernel) ?_ | refine WC.draw 21 rfl (by decide +kernel) ?_ | refine WC.draw 22 rfl (by decide +kernel) ?_ | refine WC.draw 23 rfl (by decide +kernel) ?_ | refine WC.draw 24 rfl (by decide +kernel) ?_)); (repeat (refine WD.cons rfl (fun c h => by cases h) sq_R18_1 ?_)); refine WD.nil ?_)); (try (refine st ?_; (repeat intro zzc))))); (repeat revert zzc); exact zzn.out) : G := h ⟨next⟩
theorem runesStrings_any {a0 : Option Addr} {cap0 : Nat} {ns : List Int} (hl : ns.length ≤ 1048576) (w0 : World) (m : Mem) (H : SHeap) (hr : ∀ Hp, RowR w0 m Hp 1 a0 (ns.map rI)) :
    Does Try.prog 8 #[.slice a0 ns.length cap0] w0 m H (fun v m' _ => v = .bool true ∧ m.le m') := by
  refine Does.of_body (args := [.slice a0 ns.length cap0]) Try.func8 rfl Try.ntmps8 rfl ?_
  have hml : (ns.map rI).length = ns.length := by simp
  have hfl := forms_len ns
  have hf2 : (ns.flatMap fun k => fmb (rn k)) = formsOf ns := rfl
  have hnb : nBroken (pieces (formsOf ns)) = 0 := by rw [forms_pieces, nBroken, mkP_right]; rfl
  have hrr : ((pieces (formsOf ns)).map fun p => rV p.r) = ns.map fun x => rV (rn x) := by
    rw [forms_pieces]
    have := congrArg (List.map rV) (mkP_map ns 0)
    simpa [Function.comp_def] using this
  have hr0 : RowR w0 m H 1 a0 (ns.map fun k => [Value.int .i32 k]) := hr H
  (try (refine st_R18_1 ?_; intros))
  refine WL.rename 14 (u := str (formsOf ns)) rfl rfl ?_
  refine w_callF Try.func41 ?_ (hs := to_es hrr (by omega) _ _ _)
  rintro _ m _ ⟨b, cb, rfl, rfl, rfl⟩
  have hel : (ns.map fun x => rV (rn x)).length = ns.length := by simp
  have hr1 := hr (.row b cb 21 1 (ns.map fun x => rV (rn x)) :: H)
  have hr2 : RowR w0 m (.row b cb 21 1 (ns.map fun x => rV (rn x)) :: H) 1 a0 (ns.map fun k => [Value.int .i32 k]) := hr1
  (try (refine st_R18_1 ?_; intros))
  refine WC.loopH [(17, .int .i64 ((0) : Int)), (16, .int .i64 ((ns.map fun x => rV (rn x)).length : Int)), (15, .slice b (ns.map fun x => rV (rn x)).length cb), (0, .slice a0 ns.length cap0)] ?_ ?_ (fun j r ds m' H' => ∃ i, j = ns.length - i ∧ r = [(17, .int .i64 (i : Int)), (16, .int .i64 ((ns.map fun x => rV (rn x)).length : Int)), (15, .slice b (ns.map fun x => rV (rn x)).length cb), (0, .slice a0 ns.length cap0)] ∧ ds = [] ∧ m = m' ∧ H' = .row b cb 21 1 (ns.map fun x => rV (rn x)) :: H ∧ (i ≤ ns.length)) (ns.length - (0)) ⟨0, rfl, rfl, rfl, rfl, rfl, by omega⟩ ?_
  · (repeat (first | exact Env.Sub.nil | refine Env.Sub.cons rfl ?_))
  · exact (fun w h => Pick.sat (by iterate 60 (try (first | exact Pick.all | (apply Pick.take; (· (repeat (first | exact Out.here | apply Out.there)))) | apply Pick.drop))) h)
  rintro j r ds m' H' ⟨i, rfl, rfl, rfl, rfl, rfl, hi⟩
  by_cases hlt : i < ns.length
  · obtain ⟨x, hx, hget, htk, hmem, hdr⟩ := at_idx (f := rI) hlt
    have hgetb : (ns.map fun x => rV (rn x))[i]? = some (rV (rn x)) := by rw [List.getElem?_map, hx]; rfl
    have he1 := encode_same (x := x)
    have he2 := encode_again (x := x)
    refine WC.rowSome (a := b) (by (repeat (first | exact List.Mem.head _ | apply List.Mem.tail))) (by omega) ?_
    rintro b0 rfl
    refine WC.rSome hr1 (by omega) ?_
    rintro a00 rfl
    have hws := widthS_zero x
    have hwl : widthS x ≠ 0 → widthS x = ((Utf8.encode x).data.toList.length : Int) := by
      intro h
      rw [← he1, fmb_length]
      rcases rn_cases x with ⟨h1, _⟩ | ⟨_, h2⟩
      · exact absurd (hws.2 h1) h
      · have := widthS_ok (rn_ok x); rwa [← h2] at this
    have hwr : widthS x = 0 → (rn x : Int) = 65533 := by
      intro h
      rcases rn_cases x with ⟨_, h2⟩ | ⟨h1, _⟩
      · omega
      · rw [hws.1 h] at h1; cases h1
    by_cases hz : widthS x = 0
    · have hz2 := hwr hz
      (try (refine st_R18_1 ?_; intros))
      refine WQ.next (ns.length - (i + 1)) ⟨i + 1, rfl, rfl, rfl, rfl, rfl, ?_⟩ (by omega) (by (repeat (first | exact Env.Sub.nil | refine Env.Sub.cons rfl ?_))) (fun w h => Pick.sat (by iterate 60 (try (first | exact Pick.all | (apply Pick.take; (· (repeat (first | exact Out.here | apply Out.there)))) | apply Pick.drop))) h)
      omega
    · have hz2 := hwl hz
      (try (refine st_R18_1 ?_; intros))
      refine WQ.next (ns.length - (i + 1)) ⟨i + 1, rfl, rfl, rfl, rfl, rfl, ?_⟩ (by omega) (by (repeat (first | exact Env.Sub.nil | refine Env.Sub.cons rfl ?_))) (fun w h => Pick.sat (by iterate 60 (try (first | exact Pick.all | (apply Pick.take; (· (repeat (first | exact Out.here | apply Out.there)))) | apply Pick.drop))) h)
      omega
  · have hfl2 : (ns.flatMap fun k => fmb (rn k)).length ≤ 4 * ns.length := hfl
    have hnb2 : nBroken (pieces (ns.flatMap fun k => fmb (rn k))) = 0 := hnb
    (try (refine st_R18_1 ?_; intros))
    refine w_callF Try.func41 ?_ (hs := to_es hrr (by omega) _ _ _)
    rintro _ m _ ⟨b2, cb2, rfl, rfl, rfl⟩
    (try (refine st_R18_1 ?_; intros))
    (refine q_fin0 ?_)
    exact ⟨rfl, Mem.le.refl _⟩
end Go.Proofs.Ytdmdabjaboigcaa
