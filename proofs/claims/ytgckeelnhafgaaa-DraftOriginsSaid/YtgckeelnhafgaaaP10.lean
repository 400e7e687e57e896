/-
  Parts of a walk, joined: D68 D69 EngQ EngV DV DV2. No condition.
-/
import Derived.Test.YtgckeelnhafgaaaP9
import Derived.Test.YtgckeelnhafgaaaP2
import Derived.ChangeMaps5
import Derived.ReadAgain
import Derived.ChangeBook
import Derived.Deep.Slices
import Derived.WalkKit
import Derived.ProofKit
import Derived.OpenShut
import Derived.JoinedCond
import Derived.Deep.Strs
import Derived.Test.YtgckeelnhafgaaaRows
set_option linter.all false
/-
  The walk of the law DraftOrigins: its loop over origins. No condition.
-/
namespace Go.Proofs.Ytgckeelnhafgaaa
open Go Go.Eng
set_option maxRecDepth 100000
set_option maxHeartbeats 4000000
set_option linter.all false
attribute [local irreducible] WL WC WQ QFun QLoop Does Q1 QRound QAssign Go.Addr.add
attribute [local irreducible] mapT mapO lnM orgG ogs toks
theorem org_check {bh bm cap c b5 b12 bl k cl b7 b4 k6 c6 : Nat} {a al a6 : Option Addr} {L : List Dr} {B : Br} {LG : List Nat} {dz : List Dfr} {w0 : World} {m : Mem} {Hr : SHeap} {Q : Exit → Act → World → Prop} (hok : HsOk m L B c) (hk : k < L.length) (hLG : ∀ x, Anc L x k → x ∈ LG)
    (hK : ∀ m', m.le m' → WQ 210 w0 Q (.exit 4) [(15, .int .i64 ((txOf L k).length : Int)), (8, str (txOf L k)), (5, .pointer (some ⟨b5, 0, none⟩)), (12, .pointer (some ⟨b12, 0, none⟩)), (7, .pointer (some ⟨b7, 0, none⟩)), (6, .slice a6 k6 c6), (4, .pointer (some ⟨b4, 0, none⟩))] dz m' (.blk bh (.cells [.slice a L.length cap, .map (some bm)].toArray 66 (0, 0)) :: .row a cap 71 3 (drs L) :: .blk b5 (.cells [.pointer (some ⟨bh, 0, none⟩)].toArray 24 (0, 0)) :: .blk b12 (.cells [.map (some bl)].toArray 34 (0, 0)) :: .blk bl (mapO .i64 (lnM LG)) :: Hr)) :
    WC Try.prog none 210 w0 ((loopsIn (Try.f3.body.getD .skip)).getD 1 .skip) Q [(92, .int .i64 0), (91, .int .i64 ((orgG L k).length : Int)), (90, .slice al (orgG L k).length cl), (15, .int .i64 0), (16, .int .i64 (-1)), (8, str (txOf L k)), (5, .pointer (some ⟨b5, 0, none⟩)), (12, .pointer (some ⟨b12, 0, none⟩)), (7, .pointer (some ⟨b7, 0, none⟩)), (6, .slice a6 k6 c6), (4, .pointer (some ⟨b4, 0, none⟩))] dz m
      (.row al cl 41 3 (ogs (orgG L k)) :: .blk bh (.cells [.slice a L.length cap, .map (some bm)].toArray 66 (0, 0)) :: .row a cap 71 3 (drs L) :: .blk b5 (.cells [.pointer (some ⟨bh, 0, none⟩)].toArray 24 (0, 0)) :: .blk b12 (.cells [.map (some bl)].toArray 34 (0, 0)) :: .blk bl (mapO .i64 (lnM LG)) :: Hr) := by
  have hf := hok.falls
  have hGl := ogs_length (orgG L k)
  have hGs := orgG_size L k
  obtain ⟨dk, hdk⟩ : ∃ d, L[k]? = some d := ⟨_, List.getElem?_eq_getElem hk⟩
  have htxl : (txOf L k).length ≤ 65536 := by rw [txOf_at hdk]; exact (hok.par k dk hdk).2.2.2.1
  have hadj' : ∀ i g h, (orgG L k)[i]? = some g → (orgG L k)[i + 1]? = some h → g.2 ≠ h.2 := by unfold orgG; exact (gOf_ok (orgZ L k)).adj
  have hpart := fun i g h => orgG_part (L := L) (k := k) (i := i) (g := g) h
  have hownp := fun i g h => orgG_own hf (k := k) (i := i) (g := g) h
  have hGl0 : (orgG L k).length ≤ 65536 := by
    have h1 : (orgG L k).length ≤ (orgZ L k).length := by unfold orgG; exact gOf_len (orgZ L k)
    rw [orgZ_length] at h1
    exact Nat.le_trans h1 (Nat.le_trans (toks_length _) htxl)
  refine WC.loopH [(92, .int .i64 ((0) : Int)), (91, .int .i64 ((orgG L k).length : Int)), (90, .slice al (orgG L k).length cl), (15, .int .i64 (0)), (16, .int .i64 (-1)), (8, str (txOf L k)), (5, .pointer (some ⟨b5, 0, none⟩)), (12, .pointer (some ⟨b12, 0, none⟩)), (7, .pointer (some ⟨b7, 0, none⟩)), (6, .slice a6 k6 c6), (4, .pointer (some ⟨b4, 0, none⟩))] ?_ ?_ (fun j r ds m' H' => ∃ (j0 : Nat) (mm : Mem) (z : Int) (za : Int), j = (orgG L k).length - j0 ∧ r = [(92, .int .i64 (j0 : Int)), (91, .int .i64 ((orgG L k).length : Int)), (90, .slice al (orgG L k).length cl), (15, .int .i64 z), (16, .int .i64 za), (8, str (txOf L k)), (5, .pointer (some ⟨b5, 0, none⟩)), (12, .pointer (some ⟨b12, 0, none⟩)), (7, .pointer (some ⟨b7, 0, none⟩)), (6, .slice a6 k6 c6), (4, .pointer (some ⟨b4, 0, none⟩))] ∧ ds = dz ∧ mm = m' ∧ H' = .row al cl 41 3 (ogs (orgG L k)) :: .blk bh (.cells [.slice a L.length cap, .map (some bm)].toArray 66 (0, 0)) :: .row a cap 71 3 (drs L) :: .blk b5 (.cells [.pointer (some ⟨bh, 0, none⟩)].toArray 24 (0, 0)) :: .blk b12 (.cells [.map (some bl)].toArray 34 (0, 0)) :: .blk bl (mapO .i64 (lnM LG)) :: Hr ∧ (j0 ≤ (orgG L k).length) ∧ (m.le mm) ∧ (z = (Gp.size ((orgG L k).take j0) : Int)) ∧ (za = -1 ∨ ∃ i g, j0 = i + 1 ∧ (orgG L k)[i]? = some g ∧ za = (g.2 : Int))) ((orgG L k).length - (0)) ⟨0, m, 0, -1, rfl, rfl, rfl, rfl, rfl, by omega, Mem.le.refl _, by rw [List.take_zero]; rfl, .inl rfl⟩ ?_
  · (repeat (first | exact Env.Sub.nil | refine Env.Sub.cons rfl ?_))
  · exact zpk
  rintro j r ds m' H' ⟨j0, mm, z, za, rfl, rfl, rfl, rfl, rfl, hj, hle, hz, hza⟩
  by_cases hlt : j0 < (orgG L k).length
  · obtain ⟨g, hg⟩ : ∃ g, (orgG L k)[j0]? = some g := ⟨_, List.getElem?_eq_getElem hlt⟩
    obtain ⟨p1, p2, p3, p4, p5⟩ := hpart j0 g hg
    obtain ⟨q1, q2⟩ := hownp j0 g hg
    have hog : (ogs (orgG L k))[j0]? = some [.int .i64 (Gp.size ((orgG L k).take j0) : Int), .int .i64 ((Gp.size ((orgG L k).take j0) + g.1.flatten.length : Nat) : Int), .int .i64 (g.2 : Int)] := by
      unfold ogs
      rw [List.getElem?_map, ogL_get _ _ _ hg, Nat.zero_add]; rfl
    have hzag : za ≠ (g.2 : Int) := by
      rcases hza with h | ⟨i, g0, rfl, h1, h2⟩
      · omega
      · have := hadj' i g0 g h1 hg
        omega
    have hgk : g.2 < L.length := Nat.lt_of_le_of_lt (q2.le hf) hk
    obtain ⟨dg, hdg⟩ : ∃ d, L[g.2]? = some d := ⟨_, List.getElem?_eq_getElem hgk⟩
    obtain ⟨sa, sc, hv, _⟩ := hok.at_ dg (List.mem_of_getElem? hdg)
    have htg := txOf_at hdg
    rw [htg] at q1
    have hdgt := (hok.par _ dg hdg).2.2.2.1
    have hgLG := hLG _ q2
    have hsz1 : Gp.size ((orgG L k).take (j0 + 1)) = Gp.size ((orgG L k).take j0) + g.1.flatten.length := by
      rw [List.take_succ, hg]; exact Gp.size_snoc _ _
    obtain ⟨sz, hszd⟩ : ∃ sz, sz = Gp.size ((orgG L k).take j0) := ⟨_, rfl⟩
    rw [← hszd] at hz hog hsz1 p2 p3
    generalize ogs (orgG L k) = OG at *
    obtain ⟨gl, hgld⟩ : ∃ gl, gl = g.1.flatten.length := ⟨_, rfl⟩
    rw [← hgld] at hog p2 p3 p4 hsz1
    refine WC.rowSome (a := al) zhs (by omega) ?_
    rintro al rfl
    (refine st ?_; intros; rename_i b18)
    refine WL.look1 (q := .i64) (q' := .i64) (k := (g.2 : Int)) (z := .bool false) (kvs := lnM LG) rfl rfl zhs rfl rfl (fun _ => rfl) rfl ?_
    rw [lnM_lookup, if_pos hgLG]
    simp only [Option.getD_some]
    (try (refine st ?_; intros))
    refine WL.heap (H' := .blk bh (.cells [.slice a L.length cap, .map (some bm)].toArray 66 (0, 0)) :: .row a cap 71 3 (drs L) :: .blk b5 (.cells [.pointer (some ⟨bh, 0, none⟩)].toArray 24 (0, 0)) :: .blk b12 (.cells [.map (some bl)].toArray 34 (0, 0)) :: .blk bl (mapO .i64 (lnM LG)) :: .blk b18 (.cells [.int .i64 (sz : Int), .int .i64 ((sz + gl : Nat) : Int), .int .i64 (g.2 : Int)].toArray 41 (0, 0)) :: .row (some al) cl 41 3 OG :: Hr) zpk ?_
    refine w_callF Try.func7 ?_ (hs := textIn_any hdg hv _ _ _)
    rintro v m1 H1 ⟨rfl, rfl, rfl⟩
    (try (refine st ?_; intros))
    refine WL.makeMapT rfl ?_
    intro bq
    (try (refine st ?_; intros))
    refine w_callF Try.func10 ?_ (hs := wtoks_any dg.t (by omega) _ _ _)
    rintro v m2 H2 ⟨hle2, ax, cx, rfl, rfl⟩
    have htgl := toks_length dg.t
    (try (refine st ?_; intros))
    refine WC.weak zsb zpk (has_fill (X := toks dg.t) (a := ax) (cp := cx) (bq := bq) (Hr := .blk bh (.cells [.slice a L.length cap, .map (some bm)].toArray 66 (0, 0)) :: .row a cap 71 3 (drs L) :: .blk b5 (.cells [.pointer (some ⟨bh, 0, none⟩)].toArray 24 (0, 0)) :: .blk b12 (.cells [.map (some bl)].toArray 34 (0, 0)) :: .blk bl (mapO .i64 (lnM LG)) :: .blk b18 (.cells [.int .i64 (sz : Int), .int .i64 ((sz + gl : Nat) : Int), .int .i64 (g.2 : Int)].toArray 41 (0, 0)) :: .row (some al) cl 41 3 OG :: Hr) (by omega) ?_)
    intro E cE hE
    have htk : ((txOf L k).take (min ((sz + gl : Nat) : Int) ((txOf L k).length : Int)).toNat).drop sz = g.1.flatten := by
      have e1 : (min ((sz + gl : Nat) : Int) ((txOf L k).length : Int)).toNat = sz + gl := by omega
      rw [e1, List.drop_take, Nat.add_sub_cancel_left]
      exact p2
    have hmin : min ((sz + gl : Nat) : Int) ((txOf L k).length : Int) = ((sz + gl : Nat) : Int) := by omega
    (try (refine st ?_; intros))
    rw [htk]
    refine w_callF Try.func10 ?_ (hs := wtoks_any g.1.flatten (by omega) _ _ _)
    rintro v m3 H3 ⟨hle3, ay, cy, rfl, rfl⟩
    rw [p1]
    have hg1l : g.1.length ≤ 65536 := by
      have := toks_length g.1.flatten
      rw [p1] at this
      omega
    (try (refine st ?_; intros))
    refine WC.weak zsb zpk (has_all (X := g.1) (a := ay) (cp := cy) (bq := bq) (c := cE) (E := E) (Hr := .blk bh (.cells [.slice a L.length cap, .map (some bm)].toArray 66 (0, 0)) :: .row a cap 71 3 (drs L) :: .blk b5 (.cells [.pointer (some ⟨bh, 0, none⟩)].toArray 24 (0, 0)) :: .blk b12 (.cells [.map (some bl)].toArray 34 (0, 0)) :: .blk bl (mapO .i64 (lnM LG)) :: .blk b18 (.cells [.int .i64 (sz : Int), .int .i64 ((sz + gl : Nat) : Int), .int .i64 (g.2 : Int)].toArray 41 (0, 0)) :: .row (some al) cl 41 3 OG :: Hr) (by omega) (fun t ht => hE t (q1 t ht)) ?_)
    (try (refine st ?_; intros))
    refine WQ.next ((orgG L k).length - (j0 + 1)) ⟨j0 + 1, m3, ((sz + gl : Nat) : Int), (g.2 : Int), rfl, rfl, rfl, rfl, rfl, ?_, ?_, ?_, ?_⟩ (by omega) zsb zpk
    · omega
    · exact (hle.trans hle2).trans hle3
    · rw [hsz1]
    · exact .inr ⟨j0, g, rfl, hg, rfl⟩
  · obtain rfl : j0 = (orgG L k).length := by omega
    rw [List.take_length, hGs] at hz
    subst hz
    (try (refine st ?_; intros))
    exact WQ.weak zsb zpk (hK mm hle)
end Go.Proofs.Ytgckeelnhafgaaa

/-
  The walk of the law DraftOrigins. No condition.
-/
namespace Go.Eng
open Go
theorem logGo_falls (S : List Nat) : ∀ n, (logGo S n).Pairwise (fun a b => b < a)
  | 0 => List.Pairwise.nil
  | n + 1 => by
    by_cases h : n ∈ S
    · rw [logGo_in h]
      exact List.Pairwise.cons (fun b hb => (logGo_mem.1 hb).1) (logGo_falls S n)
    · rw [logGo_out h]; exact logGo_falls S n
def lst (pre : List Nat) (k : Nat) : Nat := (pre.getLast?).getD (k + 1)
theorem lst_snoc (pre : List Nat) (x k : Nat) : lst (pre ++ [x]) k = x := by unfold lst; simp
theorem log_round {S : List Nat} {k x : Nat} {pre post : List Nat} (hk : k ∈ S) (h : logGo S (k + 1) = pre ++ x :: post) : x < lst pre k ∧ x ≤ k ∧ x ∉ pre ∧ (lst pre k = k + 1 → x = k) := by
  have hm : ∀ y ∈ pre ++ x :: post, y ≤ k := by
    intro y hy
    rw [← h] at hy
    have := (logGo_mem.1 hy).1
    omega
  have hp := logGo_falls S (k + 1)
  rw [h, List.pairwise_append] at hp
  have hxk : x ≤ k := hm x (by simp)
  have hlt : ∀ y ∈ pre, x < y := fun y hy => hp.2.2 y hy x List.mem_cons_self
  rcases List.eq_nil_or_concat pre with rfl | ⟨p, y, rfl⟩
  · rw [logGo_in hk] at h
    have hx : k = x := (List.cons.inj h).1
    exact ⟨by show x < k + 1; omega, hxk, by simp, fun _ => hx.symm⟩
  · rw [List.concat_eq_append] at *
    rw [lst_snoc]
    have hy : y ≤ k := hm y (by simp)
    exact ⟨hlt y (by simp), hxk, fun hin => Nat.lt_irrefl _ (hlt x hin), fun e => by omega⟩
theorem headB_putB (B : Br) (c : Nat) (s j : List UInt8) (k : Nat) : headB (putB B c s k) j = if j = s then some k else headB B j := by
  have h1 := getT_br j (putB B c s k)
  rw [← putM_br, getT_putM, getT_br] at h1
  by_cases h : j = s
  · rw [if_pos h] at h1 ⊢
    cases hh : headB (putB B c s k) j with
    | none => rw [hh] at h1; cases h1
    | some q =>
      rw [hh] at h1
      simp at h1
      exact congrArg some (by omega)
  · rw [if_neg h] at h1 ⊢
    cases hh : headB (putB B c s k) j with
    | none =>
      rw [hh] at h1
      cases hb : headB B j with
      | none => rfl
      | some q => rw [hb] at h1; cases h1
    | some q =>
      rw [hh] at h1
      cases hb : headB B j with
      | none => rw [hb] at h1; cases h1
      | some q2 =>
        rw [hb] at h1
        simp at h1
        exact congrArg some (by omega)
theorem txOf_app {L : List Dr} {d : Dr} {i : Nat} (h : i < L.length) : txOf (L ++ [d]) i = txOf L i := by unfold txOf; rw [List.getElem?_append_left h]
def txts (L : List Dr) (n : Nat) : List (List UInt8) := (List.range n).map (txOf L)
theorem txts_length (L : List Dr) (n : Nat) : (txts L n).length = n := by unfold txts; simp
theorem txts_snoc (L : List Dr) (n : Nat) : txts L (n + 1) = txts L n ++ [txOf L n] := by unfold txts; rw [List.range_succ, List.map_append]; rfl
end Go.Eng
namespace Go.Proofs.Ytgckeelnhafgaaa
open Go Go.Eng
set_option maxRecDepth 100000
set_option maxHeartbeats 4000000
set_option linter.all false
attribute [local irreducible] WL WC WQ QFun QLoop Does Q1 QRound QAssign Go.Addr.add
attribute [local irreducible] mapT mapO lnM orgG ogs toks logK txts strs
theorem sq_D69_1 {G : Prop} (h : G := by (repeat (first | (refine sp ?_; (repeat intro zzc)) | (refine iF 6 rfl ?_; refine w_callG Try.func6 ?_ (hs := hlen_mem zhs)))); exact WQ.q1 rfl) : G := h
theorem st_D69_1 {G G' : Prop} (next : G') (h : Bx G' → G := by intro zzn; (first | ((refine st ?_; (repeat intro zzc)); (try ((first | (refine iF 6 rfl ?_; refine w_callG Try.func6 ?_ (hs := hlen_mem zhs)) | ((refine iDraw ?_; (first | refine WC.drawAll rfl (by decide +kernel) ?_ | refine WC.draw 1 rfl (by decide +kernel) ?_ | refine WC.draw 2 rfl (by decide +kernel) ?_ | refine WC.draw 3 rfl (by decide +kernel) ?_ | refine WC.draw 4 rfl (by decide +kernel) ?_ | refine WC.draw 5 rfl (by decide +kernel) ?_ | refine WC.draw 6 rfl (by decide +kernel) ?_ | refine WC.draw 7 rfl (by decide +kernel) ?_ | refine WC.draw 8 rfl (by decide +kernel) ?_ | refine WC.draw 9 rfl (by decide +kernel) ?_ | refine WC.draw 10 rfl (by decide +kernel) ?_ | refine WC.draw 11 rfl (by decide +kernel) ?_ | refine WC.draw 12 rfl (by decide +kernel) ?_ | refine WC.draw 13 rfl (by decide +kernel) ?_ | refine WC.draw 14 rfl (by decide +kernel) ?_ | refine WC.draw 15 rfl (by decide +kernel) ?_ | refine WC.draw 16 rfl (by decide +kernel) ?_ | refine WC.draw 17 rfl (by decide +kernel) ?_ | refine WC.draw 18 rfl (by decide +kernel) ?_ | refine WC.draw 19 rfl (by decide +kernel) ?_ | refine WC.draw 20 rfl (by decide +kernel) ?_ | refine WC.draw 21 rfl (by decide +kernel) ?_ | refine WC.draw 22 rfl (by decide +kernel) ?_ | refine WC.draw 23 rfl (by decide +kernel) ?_ | refine WC.draw 24 rfl (by decide +kernel) ?_)); (repeat (refine WD.cons rfl (fun c h => by cases h) sq_D69_1 ?_)); refine WD.nil ?_)); (try (refine st ?_; (repeat intro zzc)))))) | ((first | (refine iF 6 rfl ?_; refine w_callG Try.func6 ?_ (hs := hlen_mem zhs)) | ((refine iDraw ?_; (first | refine WC.drawAll rfl (by decide +kernel) ?_ | refine WC.draw 1 rfl (by decide +kernel) ?_ | refine WC.draw 2 rfl (by decide +kernel) ?_ | refine WC.draw 3 rfl (by decide +kernel) ?_ | refine WC.draw 4 rfl (by decide +kernel) ?_ | refine WC.draw 5 rfl (by decide +kernel) ?_ | refine WC.draw 6 rfl (by decide +kernel) ?_ | refine WC.draw 7 rfl (by decide +kernel) ?_ | refine WC.draw 8 rfl (by decide +kernel) ?_ | refine WC.draw 9 rfl (by decide +kernel) ?_ | refine WC.draw 10 rfl (by decide +kernel) ?_ | refine WC.draw 11 rfl (by decide +kernel) ?_ | refine WC.draw 12 rfl (by decide +kernel) ?_ | refine WC.draw 13 rfl (by decide +kernel) ?_ | refine WC.draw 14 rfl (by decide +kernel) ?_ | refine WC.draw 15 rfl (by decide +kernel) ?_ | refine WC.draw 16 rfl (by decide +kernel) ?_ | refine WC.draw 17 rfl (by decide +kernel) ?_ | refine WC.draw 18 rfl (by decide +kernel) ?_ | refine WC.draw 19 rfl (by decide +kernel) ?_ | refine WC.draw 20 rfl (by decide +kernel) ?_ | refine WC.draw 21 rfl (by decide +kernel) ?_ | refine WC.draw 22 rfl (by decide +kernel) ?_ | refine WC.draw 23 rfl (by decide +kernel) ?_ | refine WC.draw 24 rfl (by decide +kernel) ?_)); (repeat (refine WD.cons rfl (fun c h => by cases h) sq_D69_1 ?_)); refine WD.nil ?_)); (try (refine st ?_; (repeat intro zzc))))); (repeat ((first | (refine iF 6 rfl ?_; refine w_callG Try.func6 ?_ (hs := hlen_mem zhs)) | ((refine iDraw ?_; (first | refine WC.drawAll rfl (by decide +kernel) ?_ | refine WC.draw 1 rfl (by decide +kernel) ?_ | refine WC.draw 2 rfl (by decide +kernel) ?_ | refine WC.draw 3 rfl (by decide +kernel) ?_ | refine WC.draw 4 rfl (by decide +kernel) ?_ | refine WC.draw 5 rfl (by decide +kernel) ?_ | refine WC.draw 6 rfl (by decide +kernel) ?_ | refine WC.draw 7 rfl (by decide +kernel) ?_ | refine WC.draw 8 rfl (by decide +kernel) ?_ | refine WC.draw 9 rfl (by decide +kernel) ?_ | refine WC.draw 10 rfl (by decide +kernel) ?_ | refine WC.draw 11 rfl (by decide +kernel) ?_ | refine WC.draw 12 rfl (by decide +kernel) ?_ | refine WC.draw 13 rfl (by decide +kernel) ?_ | refine WC.draw 14 rfl (by decide +kernel) ?_ | refine WC.draw 15 rfl (by decide +kernel) ?_ | refine WC.draw 16 rfl (by decide +kernel) ?_ | refine WC.draw 17 rfl (by decide +kernel) ?_ | refine WC.draw 18 rfl (by decide +kernel) ?_ | refine WC.draw 19 rfl (by decide +kernel) ?_ | refine WC.draw 20 rfl (by decide +kernel) ?_ | refine WC.draw 21 rfl (by decide +kernel) ?_ | refine WC.draw 22 rfl (by decide +kernel) ?_ | refine WC.draw 23 rfl (by decide +kernel) ?_ | refine WC.draw 24 rfl (by decide +kernel) ?_)); (repeat (refine WD.cons rfl (fun c h => by cases h) sq_D69_1 ?_)); refine WD.nil ?_)); (try (refine st ?_; (repeat intro zzc))))); (repeat revert zzc); exact zzn.out) : G := h ⟨next⟩
theorem draftOrigins_any (s : Tx) {S : List Hop} {sa : Option Addr} {sc : Nat} (hs : s.length ≤ 9223372036854775807) (hx : ∀ x ∈ S, x.Ok) (w0 : World) (m : Mem) (H : SHeap) (hr : ∀ w1 H1, RowR w1 m H1 6 sa (S.map Hop.cs)) :
    Does Try.prog 3 #[str s, .slice sa S.length sc] w0 m H (fun v m' _ => v = .bool true ∧ m.le m') := by
  refine Does.of_body (args := [str s, .slice sa S.length sc]) Try.func3 rfl Try.ntmps3 rfl ?_
  (refine st_D69_1 ?_; intros; rename_i b4)
  refine w_callF Try.func4 ?_ (hs := wakes_any _ _ _)
  rintro v m1 H1 ⟨hle1, rfl, rfl⟩
  (try (refine st_D69_1 ?_; intros))
  refine w_callF Try.func5 ?_ (hs := history_any s hs hx _ _ _ (fun w1 H1 => (hr w1 H1).le hle1))
  rintro v m2 H2 ⟨hle2, bh, bm, cap, c, a, L, B, rfl, hok, rfl⟩
  (refine st_D69_1 ?_; intros; rename_i b5 b7)
  refine WC.newRow (T := 9) (sz := 1) ?_
  have hLf := hok.few
  have hnl := drs_length L
  refine WC.loopH [(7, .pointer (some ⟨(b7), 0, none⟩)), (6, .slice (none) (0) (0)), (5, .pointer (some ⟨b5, 0, none⟩)), (4, .pointer (some ⟨b4, 0, none⟩))] ?_ ?_ (fun j r ds m' H' => ∃ (n : Nat) (mm : Mem) (Ds : List Nat) (a6 : Option Addr) (c6 : Nat) (b7 : Nat) (TS : List (List Value)), j = L.length - n ∧ r = [(7, .pointer (some ⟨b7, 0, none⟩)), (6, .slice a6 n c6), (5, .pointer (some ⟨b5, 0, none⟩)), (4, .pointer (some ⟨b4, 0, none⟩))] ∧ ds = (List.map Dfr.mark Ds) ∧ mm = m' ∧ H' = .blk bh (.cells [.slice a L.length cap, .map (some bm)].toArray 66 (0, 0)) :: .row a cap 71 3 (drs L) :: .blk bm (mapT (brE B) c) :: .blk b5 (.cells [.pointer (some ⟨bh, 0, none⟩)].toArray 24 (0, 0)) :: .row a6 c6 9 1 TS :: .blk b4 (.cells [.bool false].toArray 4 (0, 0)) :: .blk b7 (.cells [.int .i64 (n : Int)].toArray 3 (0, 0)) :: (List.map dfr Ds ++ H) ∧ (n ≤ L.length) ∧ (m2.le mm) ∧ (TS = strs (txts L n))) (L.length - (0)) ⟨0, m2, [], none, 0, b7, [], rfl, rfl, rfl, rfl, rfl, by omega, Mem.le.refl _, by unfold txts strs; rfl⟩ ?_
  · (repeat (first | exact Env.Sub.nil | refine Env.Sub.cons rfl ?_))
  · exact zpk
  rintro j r ds m' H' ⟨n, mm, Ds, a6, c6, b7, TS, rfl, rfl, rfl, rfl, rfl, hn, hle, hTS⟩
  have hTSl : TS.length = n := by rw [hTS, strs_length, txts_length]
  have hokm := hok.le hle
  by_cases hlt : n < L.length
  · obtain ⟨d, hd⟩ : ∃ d, L[n]? = some d := ⟨_, List.getElem?_eq_getElem hlt⟩
    obtain ⟨va, vc, hv, _⟩ := hok.at_ d (List.mem_of_getElem? hd)
    have htx := txOf_at hd
    have hdl := (hok.par n d hd).2.2.2.1
    have hat := hokm.at_
    have hps : ∀ (i : Nat) (d : Dr), L[i]? = some d → d.ps.length ≤ 2 := fun i d hd => (hok.par i d hd).2.2.1
    have hkin : n ∈ lineK L n := (lineK_mem hok.falls).2 (.self n)
    (try (refine st_D69_1 ?_; intros))
    refine w_callF Try.func7 ?_ (hs := textIn_any hd hv _ _ _)
    rintro v m3 H3 ⟨rfl, rfl, rfl⟩
    (try (refine st_D69_1 ?_; intros))
    refine w_callF Try.func8 ?_ (hs := originsIn_any hlt _ _ _ hokm)
    rintro v m4 H4 ⟨hle4, al, cl, rfl, rfl⟩
    (try (refine st_D69_1 ?_; intros))
    refine WL.makeMap .i64 rfl ?_
    intro bl
    (refine st_D69_1 ?_; intros; rename_i b12 b13)
    refine w_callF Try.func9 ?_ (hs := log_any _ _ _)
    rintro v m5 H5 ⟨rfl, p2, p3, rfl, rfl⟩
    refine WL.persist (b := p2) (by (repeat (first | exact Out.here | apply Out.there))) ?_
    intro m6 hle6 hp2
    refine WL.persist (b := p3) (by (repeat (first | exact Out.here | apply Out.there))) ?_
    intro m7 hle7 hp3
    (try (refine st_D69_1 ?_; intros))
    have e1 : lnM ([] : List Nat) = [] := by unfold lnM; rfl
    have e2 : (n : Int) + 1 = ((lst [] n : Nat) : Int) := by show (n : Int) + 1 = ((n + 1 : Nat) : Int); omega
    rw [← e1, e2]
    refine WC.heap (H' := .blk b13 (.cells [.int .i64 (lst [] n : Int)].toArray 3 (0, 0)) :: .blk b12 (.cells [.map (some bl)].toArray 34 (0, 0)) :: .blk bl (mapO .i64 (lnM [])) :: .blk b7 (.cells [.int .i64 (n : Int)].toArray 3 (0, 0)) :: .blk bh (.cells [.slice a L.length cap, .map (some bm)].toArray 66 (0, 0)) :: .row a cap 71 3 (drs L) :: .row al cl 41 3 (ogs (orgG L n)) :: .blk bm (mapT (brE B) c) :: .blk b5 (.cells [.pointer (some ⟨bh, 0, none⟩)].toArray 24 (0, 0)) :: .row a6 c6 9 1 TS :: .blk b4 (.cells [.bool false].toArray 4 (0, 0)) :: (List.map dfr Ds ++ H)) zpk ?_
    refine WC.rangeFuncR (encs := fun x : Nat => [.int .i64 (x : Int)]) (xs := logK L n) (lb := [.pointer (some ⟨p2, 0, none⟩), .pointer (some ⟨p3, 0, none⟩)]) (ps := [68]) (Hc := .row al cl 41 3 (ogs (orgG L n)) :: .blk bm (mapT (brE B) c) :: .blk b5 (.cells [.pointer (some ⟨bh, 0, none⟩)].toArray 24 (0, 0)) :: .row a6 c6 9 1 TS :: .blk b4 (.cells [.bool false].toArray 4 (0, 0)) :: (List.map dfr Ds ++ H))
      (J := fun pre m' Hl => m7.le m' ∧ Hl = [.blk b13 (.cells [.int .i64 (lst pre n : Int)].toArray 3 (0, 0)), .blk b12 (.cells [.map (some bl)].toArray 34 (0, 0)), .blk bl (mapO .i64 (lnM pre)), .blk b7 (.cells [.int .i64 (n : Int)].toArray 3 (0, 0)), .blk bh (.cells [.slice a L.length cap, .map (some bm)].toArray 66 (0, 0)), .row a cap 71 3 (drs L)]) (Jx := fun _ _ _ _ => False)
      rfl Try.func22 rfl rfl (log_seq (bh := bh) (bm := bm) (cap := cap) (a := a) hlt hLf hps p2 p3) (fun _ => rfl) rfl (fun _ _ _ _ h hm => ⟨h.1.trans hm, h.2⟩)
      (fun pre m' Hl i j h => by
        obtain ⟨h1, rfl⟩ := h
        exact ⟨⟨by simp, by simp, fun d hd => (hat d hd).le (((hle4.trans hle6).trans hle7).trans h1)⟩, h1 _ _ (hle7 _ _ hp2), h1 _ _ hp3⟩) (fun _ _ _ _ _ h _ => h) (.cons (.cons (.cons (.cons (.cons (.cons .nil)))))) ⟨Mem.le.refl _, rfl⟩ ?_ ?_ ?_
    · rintro lp pre x post hx m8 Hl ⟨hle8, rfl⟩ hm8 Hfr hfr
      have hx' : logGo (lineK L n) (n + 1) = pre ++ x :: post := by unfold logK at hx; exact hx
      obtain ⟨r1, r2, r3, r4⟩ := log_round hkin hx'
      obtain ⟨la, hla⟩ : ∃ la, la = lst pre n := ⟨_, rfl⟩
      rw [← hla] at r1 r4
      rw [← hla]
      have hl2 : lst (pre ++ [x]) n = x := lst_snoc _ _ _
      (try (refine st_D69_1 ?_; intros))
      refine WQ.assigned (.cons (.cons (.cons (.cons (.cons (.cons .nil)))))) (Mem.le.refl _) ?_
      intro Hfr2
      by_cases hl : la = n + 1
      · have hxn := r4 hl
        (try (refine st_D69_1 ?_; intros))
        simp only [List.cons_append, List.nil_append]
        refine WL.mapNew (q := .i64) (q' := .i64) (k := (x : Int)) (v := .bool true) (kvs := lnM pre) rfl rfl rfl rfl rfl (by repeat (first | exact Repl.here | apply Repl.there)) (by rw [lnM_lookup, if_neg r3]) ?_
        rw [← lnM_snoc]
        (try (refine st_D69_1 ?_; intros))
        exact WQ.roundOn (Hl := [.blk b13 (.cells [.int .i64 (x : Int)].toArray 3 (0, 0)), .blk b12 (.cells [.map (some bl)].toArray 34 (0, 0)), .blk bl (mapO .i64 (lnM (pre ++ [x]))), .blk b7 (.cells [.int .i64 (n : Int)].toArray 3 (0, 0)), .blk bh (.cells [.slice a L.length cap, .map (some bm)].toArray 66 (0, 0)), .row a cap 71 3 (drs L)]) zpk (Mem.le.refl _) ⟨hle8, by rw [hl2]⟩
      · (try (refine st_D69_1 ?_; intros))
        simp only [List.cons_append, List.nil_append]
        refine WL.mapNew (q := .i64) (q' := .i64) (k := (x : Int)) (v := .bool true) (kvs := lnM pre) rfl rfl rfl rfl rfl (by repeat (first | exact Repl.here | apply Repl.there)) (by rw [lnM_lookup, if_neg r3]) ?_
        rw [← lnM_snoc]
        (try (refine st_D69_1 ?_; intros))
        exact WQ.roundOn (Hl := [.blk b13 (.cells [.int .i64 (x : Int)].toArray 3 (0, 0)), .blk b12 (.cells [.map (some bl)].toArray 34 (0, 0)), .blk bl (mapO .i64 (lnM (pre ++ [x]))), .blk b7 (.cells [.int .i64 (n : Int)].toArray 3 (0, 0)), .blk bh (.cells [.slice a L.length cap, .map (some bm)].toArray 66 (0, 0)), .row a cap 71 3 (drs L)]) zpk (Mem.le.refl _) ⟨hle8, by rw [hl2]⟩
    · rintro D m8 Hl ⟨hle8, rfl⟩ hm8
      (try (refine st_D69_1 ?_; intros))
      simp only [List.cons_append, List.nil_append]
      have hLG : ∀ x, Anc L x n → x ∈ logK L n := by
        intro x hx
        unfold logK
        exact logGo_mem.2 ⟨by have := hx.le hok.falls; omega, (lineK_mem hok.falls).2 hx⟩
      have h0 : 0 ∈ logK L n := hLG 0 (hok.root n hlt)
      have hle28 : m2.le m8 := (((hle.trans hle4).trans hle6).trans hle7).trans hle8
      rw [← htx]
      refine WC.weak zsb zpk (org_check (k := n) (al := al) (cl := cl) (LG := logK L n) (bm := bm) (bh := bh) (b5 := b5) (b12 := b12) (bl := bl) (Hr := .blk b7 (.cells [.int .i64 (n : Int)].toArray 3 (0, 0)) :: .blk bm (mapT (brE B) c) :: .row a6 c6 9 1 TS :: .blk b4 (.cells [.bool false].toArray 4 (0, 0)) :: .blk D (.deferred (some [])) :: (List.map dfr Ds ++ H)) (hok.le hle28) hlt hLG ?_)
      intro m9 hle9
      (try (refine st_D69_1 ?_; intros))
      refine WL.look1 (q := .i64) (q' := .i64) (k := ((0 : Nat) : Int)) (z := .bool false) (kvs := lnM (logK L n)) rfl rfl zhs rfl rfl (fun _ => rfl) rfl ?_
      rw [lnM_lookup, if_pos h0]
      simp only [Option.getD_some]
      have hTS2 : TS ++ [[str (txOf L n)]] = strs (txts L (n + 1)) := by
        rw [txts_snoc, hTS]; unfold strs; rw [List.map_append]; rfl
      (refine st_D69_1 ?_; intros; rename_i b9 a2 c2 b7n)
      rw [hTSl, hTS2]
      rw [show Eng.Item.blk D (.deferred (some [])) :: (List.map dfr Ds ++ H) = List.map dfr (D :: Ds) ++ H from rfl]
      refine WQ.next (L.length - (n + 1)) ⟨n + 1, m9, D :: Ds, a2, c2, b7n, strs (txts L (n + 1)), rfl, rfl, rfl, rfl, rfl, ?_, ?_, ?_⟩ (by omega) zsb zpk
      · omega
      · exact hle28.trans hle9
      · rfl
    · rintro D c9 pre m8 Hl _ h _
      exact h.elim
  · obtain rfl : n = L.length := by omega
    (try (refine st_D69_1 ?_; intros))
    refine w_callF Try.func11 ?_ (hs := branches_any _ _ _)
    rintro v m3 H3 ⟨rfl, bb, rfl, rfl⟩
    refine WL.persist (b := bb) (by (repeat (first | exact Out.here | apply Out.there))) ?_
    intro m4 hle4 hbb
    (try (refine st_D69_1 ?_; intros))
    refine WC.heap (H' := .blk bh (.cells [.slice a L.length cap, .map (some bm)].toArray 66 (0, 0)) :: .row a cap 71 3 (drs L) :: .blk bm (mapT (brE B) c) :: .blk b5 (.cells [.pointer (some ⟨bh, 0, none⟩)].toArray 24 (0, 0)) :: .row a6 c6 9 1 TS :: .blk b4 (.cells [.bool false].toArray 4 (0, 0)) :: (List.map dfr Ds ++ H)) zpk ?_
    refine WC.rangeFuncR (encs := fun x : Tx × Nat => [str x.1, .int .i64 (x.2 : Int)]) (xs := brL B) (lb := [.pointer (some ⟨bb, 0, none⟩)]) (ps := [183, 184]) (Hc := .row a6 c6 9 1 TS :: .blk b4 (.cells [.bool false].toArray 4 (0, 0)) :: (List.map dfr Ds ++ H))
      (J := fun pre m' Hl => m4.le m' ∧ ∃ (a' : Option Addr) (cap' c' : Nat) (L' : List Dr) (B' : Br), HsOk m' L' B' c' ∧ (∀ i, i < L.length → txOf L' i = txOf L i) ∧ L.length ≤ L'.length ∧ (∀ n, n ∉ pre.map (·.1) → headB B' n = headB B n) ∧ (pre = [] → B' = B ∧ c' = c) ∧
        Hl = [.blk bh (.cells [.slice a' L'.length cap', .map (some bm)].toArray 66 (0, 0)), .row a' cap' 71 3 (drs L'), .blk bm (mapT (brE B') c'), .blk b5 (.cells [.pointer (some ⟨bh, 0, none⟩)].toArray 24 (0, 0))]) (Jx := fun _ _ _ _ => False)
      rfl Try.func26 rfl rfl (branches_seq (bh := bh) (bm := bm) hok.old hok.borns hok.names (by have := hok.most; omega) bb) (fun _ => rfl) rfl
      (fun _ _ _ _ h hm => by
        obtain ⟨h1, a', cap', c', L', B', h2, h3⟩ := h
        exact ⟨h1.trans hm, a', cap', c', L', B', h2.le hm, h3⟩)
      (fun pre m' Hl i j h => by
        obtain ⟨h1, a', cap', c', L', B', h2, h3, h4, h5, h6, rfl⟩ := h
        exact ⟨⟨a', L'.length, cap', by simp⟩, ⟨B', c', by simp, h5, h6⟩, h1 _ _ hbb⟩) (fun _ _ _ _ _ h _ => h) (.cons (.cons (.cons (.cons .nil)))) ⟨Mem.le.refl _, a, cap, c, L, B, hokm.le hle4, fun _ _ => rfl, Nat.le_refl _, fun _ _ => rfl, fun _ => ⟨rfl, rfl⟩, rfl⟩ ?_ ?_ ?_
    · rintro lp pre ⟨x, kx⟩ post hx m5 Hl ⟨h1, a', cap', c', L', B', h2, h3, h4, h5, h6, rfl⟩ hm5 Hfr hfr
      (try (refine st_D69_1 ?_; intros))
      refine WQ.assigned (.cons (.cons (.cons (.cons .nil)))) (Mem.le.refl _) ?_
      intro Hfr2
      (try (refine st_D69_1 ?_; intros))
      simp only [List.cons_append, List.nil_append]
      have hL' := h2.few
      refine w_callF Try.func12 ?_ (hs := commit_any x 1 [110, 101, 119, 32, 119, 111, 114, 100, 115] hL' _ _ _)
      have hpre : ∀ (B2 : Br), (∀ n, n ≠ x → headB B2 n = headB B' n) → ∀ n, n ∉ (pre ++ [(x, kx)]).map (·.1) → headB B2 n = headB B n := by
        intro B2 hB2 n hn
        rw [List.map_append, List.mem_append] at hn
        rw [hB2 n (fun e => hn (.inr (by rw [e]; simp))), h5 n (fun e => hn (.inl e))]
      rintro v m6 H6 ⟨hle6, (⟨e, he, hne, rfl, rfl, rfl⟩ | ⟨k, d, a2, cap2, he, rfl, hk, hdp, hdt, hdh, hpa, rfl⟩)⟩
      · (try (refine st_D69_1 ?_; intros))
        exact WQ.roundOn (Hl := [.blk bh (.cells [.slice a' L'.length cap', .map (some bm)].toArray 66 (0, 0)), .row a' cap' 71 3 (drs L'), .blk bm (mapT (brE B') c'), .blk b5 (.cells [.pointer (some ⟨bh, 0, none⟩)].toArray 24 (0, 0))]) zpk (Mem.le.refl _)
          ⟨h1, a', cap', c', L', B', h2, h3, h4, hpre B' (fun _ _ => rfl), fun e => by simp at e, rfl⟩
      · have hkl := h2.head hk
        have hcom : ¬ (L'.length = 256) := by
          unfold comErr at he
          rw [if_neg (by rw [hk]; simp), if_neg (by omega)] at he
          intro h
          rw [if_pos (.inr h)] at he
          omega
        (try (refine st_D69_1 ?_; intros))
        exact WQ.roundOn (Hl := [.blk bh (.cells [.slice a2 (L' ++ [d]).length cap2, .map (some bm)].toArray 66 (0, 0)), .row a2 cap2 71 3 (drs (L' ++ [d])), .blk bm (mapT (brE (putB B' c' x L'.length)) (clkB B' c' x)), .blk b5 (.cells [.pointer (some ⟨bh, 0, none⟩)].toArray 24 (0, 0))]) zpk hle6
          ⟨h1.trans hle6, a2, cap2, _, L' ++ [d], _, (h2.le hle6).add (by omega) (by rw [hdp]; intro p hp; rw [List.mem_singleton] at hp; subst hp; exact hkl) (by rw [hdp]; simp) (by rw [hdp]; simp) (by rw [hdt]; simp) (by omega) hpa hk,
            fun i hi => by rw [txOf_app (by omega)]; exact h3 i hi, by rw [List.length_append]; omega, hpre _ (fun n hn => by rw [headB_putB, if_neg hn]), fun e => by simp at e, rfl⟩
    · rintro D m5 Hl ⟨h1, a', cap', c', L', B', h2, h3, h4, h5, h6, rfl⟩ hm5
      (try (refine st_D69_1 ?_; intros))
      simp only [List.cons_append, List.nil_append]
      have hTg : ∀ i, i < L.length → TS[i]? = some [str (txOf L i)] := by
        intro i hi
        rw [hTS]; unfold strs txts
        rw [List.getElem?_map, List.getElem?_map, List.getElem?_range hi]; rfl
      refine WC.loopH [(190, .int .i64 ((0) : Int)), (189, .int .i64 (L.length : Int)), (188, .slice a6 L.length c6), (5, .pointer (some ⟨b5, 0, none⟩)), (4, .pointer (some ⟨b4, 0, none⟩))] ?_ ?_ (fun j r ds m' H' => ∃ (i : Nat), j = L.length - i ∧ r = [(190, .int .i64 (i : Int)), (189, .int .i64 (L.length : Int)), (188, .slice a6 L.length c6), (5, .pointer (some ⟨b5, 0, none⟩)), (4, .pointer (some ⟨b4, 0, none⟩))] ∧ ds = (List.map Dfr.mark (D :: Ds)) ∧ m5 = m' ∧ H' = .blk bh (.cells [.slice a' L'.length cap', .map (some bm)].toArray 66 (0, 0)) :: .row a' cap' 71 3 (drs L') :: .blk bm (mapT (brE B') c') :: .blk b5 (.cells [.pointer (some ⟨bh, 0, none⟩)].toArray 24 (0, 0)) :: .row a6 c6 9 1 TS :: .blk b4 (.cells [.bool false].toArray 4 (0, 0)) :: (List.map dfr (D :: Ds) ++ H) ∧ (i ≤ L.length)) (L.length - (0)) ⟨0, rfl, rfl, rfl, rfl, rfl, by omega⟩ ?_
      · (repeat (first | exact Env.Sub.nil | refine Env.Sub.cons rfl ?_))
      · exact zpk
      rintro j r ds m' H' ⟨i, rfl, rfl, rfl, rfl, rfl, hi⟩
      by_cases hlt2 : i < L.length
      · obtain ⟨d, hd⟩ : ∃ d, L'[i]? = some d := ⟨_, List.getElem?_eq_getElem (by omega)⟩
        obtain ⟨va, vc, hv, _⟩ := h2.at_ d (List.mem_of_getElem? hd)
        have hdx : d.t = txOf L i := by rw [← txOf_at hd]; exact h3 i hlt2
        have hgi := hTg i hlt2
        refine WC.rowSome (a := a6) zhs (by omega) ?_
        rintro a6 rfl
        (try (refine st_D69_1 ?_; intros))
        refine w_callF Try.func7 ?_ (hs := textIn_any hd hv _ _ _)
        rintro v m6 H6 ⟨rfl, rfl, rfl⟩
        rw [hdx]
        (try (refine st_D69_1 ?_; intros))
        refine WQ.next (L.length - (i + 1)) ⟨i + 1, rfl, rfl, rfl, rfl, rfl, ?_⟩ (by omega) zsb zpk
        · omega
      · (try (refine st_D69_1 ?_; intros))
        refine w_callF Try.func4 ?_ (hs := wakes_any _ _ _)
        rintro v m7 H7 ⟨hle7, rfl, rfl⟩
        (try (refine st_D69_1 ?_; intros))
        refine WQ.heapX (H' := List.map dfr (D :: Ds) ++ (.blk b4 (.cells [.bool true].toArray 4 (0, 0)) :: H)) ?_ ?_
        · intro w hw
          have h9 := (zpk : ∀ w, Sat w0 m7 _ w → Sat w0 m7 (.blk b4 (.cells [.bool true].toArray 4 (0, 0)) :: (List.map dfr (D :: Ds) ++ H)) w) w hw
          exact h9.perm (List.perm_append_comm_assoc [_] (List.map dfr (D :: Ds)) H)
        refine WQ.marks (ds := D :: Ds) (H1 := .blk b4 (.cells [.bool true].toArray 4 (0, 0)) :: H) (List.Perm.refl _) ?_
        exact q_fin0 (H0 := .blk b4 (.cells [.bool true].toArray 4 (0, 0)) :: H) ⟨rfl, hle1.trans (hle2.trans (hle.trans (hle4.trans (h1.trans hle7))))⟩ (hd := zpk)
    · rintro D c9 pre m5 Hl _ h _
      exact h.elim
end Go.Proofs.Ytgckeelnhafgaaa

/-
  A walk's engine, sixteenth part: how a law's arguments are read, ahead of the call and behind it. No condition.
-/
set_option linter.all false
namespace Go.Eng
open Go Go.RowKit Go.ChangeShapes Go.WideShapes Go.ChangeMaps
section
variable {H : Type} {enc : TypeId × Value → H} {P : Program}
theorem same_below {W W' : World} (hb : Below W.heap.size W W') {p : MemPlace} (hp : p.block < W.heap.size) : W.sameAt W' p := by
  cases p with
  | cell b off =>
    have h := hb.block b hp
    show W'.cell? ⟨b, off, none⟩ = W.cell? ⟨b, off, none⟩
    simp only [World.cell?, h]
  | map b => exact hb.block b hp
theorem trod_again {W W' : World} {sp : Nat → Bool} {t : TypeId} {v : Value} {d : DataW H} {p : List MemPlace} (hl : laidOutB P = true) (ht : t < P.types.size) (hr : P.readableRec t = true)
    (h : DataW.Trod enc P W 0 (fun _ => true) true t v d p) (hlt : ∀ q ∈ p, q.block < W.heap.size) (hb : Below W.heap.size W W') (hs : ∀ q ∈ p, sp q.block = true) : DataW.Trod enc P W' 0 sp true t v d p := by
  obtain ⟨n, hn⟩ := h
  have h1 := DataW.trod_carry (w' := W') n _ _ _ hn (fun q hq => same_below hb (hlt q hq))
  exact ⟨n, DataW.trod_respare (kids_book hl hr) (fun t e hT hu => book_sized hr hT hu) n _ _ _ ⟨ht, book_self t⟩ h1 hs⟩
theorem args_again {W W' : World} {sp : Nat → Bool} (hl : laidOutB P = true) (hb : Below W.heap.size W W') : ∀ {ts : List TypeId} {vs : List Value} {ds : List (DataW H)} {p : List MemPlace},
    (∀ t ∈ ts, t < P.types.size ∧ P.readableRec t = true) → DataW.TrodAll enc P W 0 (fun _ => true) true ts vs ds p → (∀ q ∈ p, sp q.block = true) → DataW.TrodAll enc P W' 0 sp true ts vs ds p
  | [], [], [], _, _, h, _ => h
  | t :: ts, v :: vs, d :: ds, p, hts, h, hs => by
    have hlt := DataW.TrodAll.lt h
    obtain ⟨a, b, h1, h2, e⟩ := h
    subst e
    obtain ⟨g1, g2⟩ := hts t List.mem_cons_self
    exact ⟨a, b, trod_again hl g1 g2 h1 (fun q hq => hlt q (List.mem_append_left _ hq)) hb (fun q hq => hs q (List.mem_append_left _ hq)),
      args_again hl hb (fun t ht => hts t (List.mem_cons_of_mem _ ht)) h2 (fun q hq => hs q (List.mem_append_right _ hq)), rfl⟩
/-- a law that says true, and leaves all that it was handed -/
theorem post_true {f : Func} {s : ChangeSpec} {apart fresh handsOn again : Bool} {W W' : World} {args : Array Value} {ds gs : List (DataW H)} {before : List MemPlace} {tb : TypeId}
    (hW : DataW.Whole enc P f.params.toList s.vars apart W args.toList ds gs before) (hvars : s.vars = []) (hfn : s.fn H (ds ++ gs) = { results := [.lit (.bool true)], args := ds })
    (hres : f.resultTypes = #[tb]) (htb : P.underlying tb = some .bool) (hl : laidOutB P = true) (hts : (f.params.toList.all fun t => decide (t < P.types.size) && P.readableRec t) = true) (hb : Below W.heap.size W W') :
    s.post enc P f apart fresh handsOn again W args (.bool true) W' := by
  have hW2 := hW
  obtain ⟨p, q, hA, hV, e, _, _⟩ := hW
  rw [hvars] at hV
  obtain ⟨rfl, rfl⟩ := trodVars_none hV
  rw [List.append_nil] at e
  subst e
  have hts' : ∀ t ∈ f.params.toList, t < P.types.size ∧ P.readableRec t = true := fun t ht => by simpa using List.all_eq_true.1 hts t ht
  refine post_below (pa := before) (pv := []) hW2 (fun _ _ _ => ?_) (fun sp hs => ?_) (fun _ _ => ?_) (by simp) hb ?_
  · rw [hfn, hres]; exact trodAll_cons_mk (shut_bool htb _) trodAll_mk0
  · rw [hfn]; exact args_again hl hb hts' hA hs
  · rw [hfn, hvars]; rfl
  · intro j t r h1 h2
    rw [hres] at h1 h2
    match j, h1 with
    | 0, h1 =>
      simp at h1; subst h1
      simp [Value.resultList] at h2
      subst h2
      exact okWide_bool_mk htb _
/-- a slice that came in, of elements of one cell -/
theorem RowR.came {w0 W : World} {Hp : SHeap} {sz : Nat} {a : Option Addr} {es : List (List Value)} (h1 : ∀ e ∈ es, e.length = sz)
    (h2 : match a with | .none => es = [] | .some b => ∀ j v, es.flatten[j]? = .some v → W.cell? (b.add j) = .some v) : RowR w0 (memOf W) Hp sz a es := by
  intro w hs
  refine ⟨h1, ?_⟩
  cases a with
  | none => exact h2
  | some b =>
    intro j v hj
    have hc := h2 j v hj
    generalize b.add j = c at hc ⊢
    obtain ⟨b, o, s⟩ := c
    cases hh : W.heap[b]? with
    | none => cases s <;> simp [World.cell?, hh] at hc
    | some ob =>
      have := hs.pers b ob hh
      cases s <;> simpa [World.cell?, this, hh] using hc
end
end Go.Eng

/-
  A walk's engine: a law's arguments that are slices of elements of several cells. No condition.
-/
set_option linter.all false
namespace Go.Eng
open Go Go.RowKit Go.ChangeShapes Go.WideShapes Go.ChangeMaps
section
variable {H : Type} {enc : TypeId × Value → H} {P : Program}
theorem rows_at {sz : Nat} : ∀ {es : List (List Value)}, (∀ e ∈ es, e.length = sz) → ∀ {j : Nat} {v : Value}, es.flatten[j]? = some v → ∃ i c e, es[i]? = some e ∧ c < sz ∧ j = i * sz + c ∧ e[c]? = some v
  | [], _, j, v, h => by simp at h
  | e :: es, he, j, v, h => by
    have hl : e.length = sz := he e List.mem_cons_self
    rw [List.flatten_cons] at h
    by_cases hj : j < sz
    · rw [List.getElem?_append_left (by omega)] at h
      exact ⟨0, j, e, rfl, hj, by simp, h⟩
    · rw [List.getElem?_append_right (by omega), hl] at h
      obtain ⟨i, c, e', h1, h2, h3, h4⟩ := rows_at (fun x hx => he x (List.mem_cons_of_mem _ hx)) h
      exact ⟨i + 1, c, e', by simpa using h1, h2, by rw [Nat.add_mul, Nat.one_mul]; omega, h4⟩
theorem open_rows {α : Type} [Inhabited α] (sz : Nat) (val : α → List Value) (dat : α → DataW H) (ok : α → Prop) (hsz : ∀ x, (val x).length = sz) {W : World} {r : Go.Reach} {b0 : Nat} {t e : TypeId} {v : Value} {d : DataW H} {ps : List MemPlace} (ht : P.underlying t = some (.slice e)) (hc : P.cellsOf e = sz)
    (hone : ∀ (n : Nat) (u : List Value) (y : DataW H × List MemPlace), DataW.trod enc P W 0 (fun _ => true) true n e u = some y → ∃ x, u = val x ∧ y.1 = dat x ∧ ok x)
    (hval : Value.okWide P W r b0 t v) (h : DataW.Trod enc P W 0 (fun _ => true) true t v d ps) : ∃ (a : Option Addr) (cap : Nat) (ns : List α) (spare : List (DataW H)), v = .slice a ns.length cap ∧ ns.length ≤ cap ∧ (∀ x ∈ ns, ok x) ∧
      (d = .nil ∧ ns = [] ∨ d = .slice (ns.map dat) spare) ∧ ∀ w0 Hp, RowR w0 (memOf W) Hp sz a (ns.map val) := by
  obtain ⟨a, len, cap, rfl⟩ := okWide_slice ht hval
  obtain ⟨n, hn⟩ := h
  rcases Deep.open_slice ht hn with ⟨h1, h2⟩ | ⟨a', len', cap', m, n', D, Pl, h1, _, hle, _, hm, h2, hx⟩
  · simp [Value.cells] at h1
    obtain ⟨rfl, rfl, rfl⟩ := h1
    exact ⟨none, 0, [], [], rfl, Nat.le_refl _, (by simp), .inl ⟨congrArg Prod.fst h2, rfl⟩, fun _ _ => RowR.nil⟩
  · simp [Value.cells] at h1
    obtain ⟨rfl, rfl, rfl⟩ := h1
    simp only [if_true] at hm
    subst hm
    rw [hc] at hx
    obtain ⟨X, hX⟩ := Deep.choose_lt (α := α) (n := m) (p := fun i x => W.cells? 0 (a'.add (i * sz)) sz = some (val x) ∧ D i = dat x ∧ ok x) (fun i hi => by
      obtain ⟨u, g1, g2⟩ := hx i hi
      obtain ⟨x, rfl, e2, e3⟩ := hone _ _ _ g2
      exact ⟨x, g1, e2, e3⟩)
    refine ⟨some a', m, (List.range len).map X, (List.range (m - len)).map fun j => D (len + j), by simp, by simpa using hle, ?_, .inr ?_, fun w0 Hp => ?_⟩
    · intro x hxm
      obtain ⟨i, hi, rfl⟩ := List.mem_map.1 hxm
      exact (hX i (by have := List.mem_range.1 hi; omega)).2.2
    · have := congrArg Prod.fst h2
      simp only at this
      rw [this, List.map_map]
      congr 1
      exact List.map_congr_left fun i hi => (hX i (by have := List.mem_range.1 hi; omega)).2.1
    · have hall : ∀ e ∈ ((List.range len).map X).map val, e.length = sz := by
        intro e he
        obtain ⟨x, _, rfl⟩ := List.mem_map.1 he
        exact hsz x
      refine RowR.came hall ?_
      intro j v hj
      obtain ⟨i, c, e, h1, h2, rfl, h4⟩ := rows_at hall hj
      rw [List.getElem?_map, List.getElem?_map] at h1
      obtain ⟨x, hx1, rfl⟩ := Option.map_eq_some_iff.1 h1
      obtain ⟨i', hi, rfl⟩ := Option.map_eq_some_iff.1 hx1
      obtain ⟨hjl, rfl⟩ := List.getElem?_eq_some_iff.1 hi
      rw [List.getElem_range] at h4
      have hjl' : i < len := by simpa using hjl
      have g := (World.cells?_some (hX i (by omega)).1).2.2 c h2
      rw [h4] at g
      rw [← g, Go.Addr.add_add]
end
end Go.Eng

/-
  How the script of a history is read: steps of three numbers and three texts. No condition.
-/
namespace Go.Eng
open Go Go.RowKit Go.ChangeShapes Go.WideShapes Go.ChangeMaps
def Hop.dat {H : Type} (x : Hop) : DataW H := .agg [.lit (.int .i64 x.kind), .lit (.string x.br), .lit (.string x.fr), .lit (.int .i64 x.hand), .lit (.int .i64 x.at_), .lit (.string x.text)]
theorem open_hops {H : Type} {enc : TypeId × Value → H} {P : Program} {f0 f1 f2 f3 f4 f5 : Field} {W : World} {r : Go.Reach} {b0 : Nat} {t e : TypeId} {v : Value} {d : DataW H} {ps : List MemPlace} (ht : P.underlying t = some (.slice e)) (he : P.underlying e = some (.struct #[f0, f1, f2, f3, f4, f5])) (hc : P.cellsOf e = 6)
    (h0 : f0.offset = 0 ∧ P.underlying f0.type = some (.int .i64) ∧ P.cellsOf f0.type = 1) (h1 : f1.offset = 1 ∧ P.underlying f1.type = some .string ∧ P.cellsOf f1.type = 1) (h2 : f2.offset = 2 ∧ P.underlying f2.type = some .string ∧ P.cellsOf f2.type = 1)
    (h3 : f3.offset = 3 ∧ P.underlying f3.type = some (.int .i64) ∧ P.cellsOf f3.type = 1) (h4 : f4.offset = 4 ∧ P.underlying f4.type = some (.int .i64) ∧ P.cellsOf f4.type = 1) (h5 : f5.offset = 5 ∧ P.underlying f5.type = some .string ∧ P.cellsOf f5.type = 1)
    (hval : Value.okWide P W r b0 t v) (h : DataW.Trod enc P W 0 (fun _ => true) true t v d ps) : ∃ (a : Option Addr) (cap : Nat) (S : List Hop), v = .slice a S.length cap ∧ S.length ≤ cap ∧ (∀ x ∈ S, x.Ok) ∧
      (∃ spare : List (DataW H), d = .nil ∧ S = [] ∨ d = .slice (S.map Hop.dat) spare) ∧ ∀ w0 Hp, RowR w0 (memOf W) Hp 6 a (S.map Hop.cs) := by
  obtain ⟨a, cap, ns, sp, e1, e2, e3, e4, e5⟩ := open_rows 6 Hop.cs Hop.dat Hop.Ok (fun _ => rfl) ht hc (fun n u y hy => by
    obtain ⟨xs, n', _, hx, hl, hlen, hf⟩ := DataW.trod_struct he hy
    rw [hc] at hl
    obtain ⟨c0, c1, c2, c3, c4, c5, rfl⟩ : ∃ c0 c1 c2 c3 c4 c5, u = [c0, c1, c2, c3, c4, c5] := by
      match u, hl with
      | [c0, c1, c2, c3, c4, c5], _ => exact ⟨c0, c1, c2, c3, c4, c5, rfl⟩
    match xs, hlen with
    | [y0, y1, y2, y3, y4, y5], _ =>
      have q0 := hf 0 f0 rfl
      have q1 := hf 1 f1 rfl
      have q2 := hf 2 f2 rfl
      have q3 := hf 3 f3 rfl
      have q4 := hf 4 f4 rfl
      have q5 := hf 5 f5 rfl
      rw [h0.1, h0.2.2] at q0
      rw [h1.1, h1.2.2] at q1
      rw [h2.1, h2.2.2] at q2
      rw [h3.1, h3.2.2] at q3
      rw [h4.1, h4.2.2] at q4
      rw [h5.1, h5.2.2] at q5
      obtain ⟨x0, b0, d0, w0⟩ := DataW.trod_int h0.2.1 q0
      obtain ⟨x1, b1, d1, w1⟩ := DataW.trod_string h1.2.1 q1
      obtain ⟨x2, b2, d2, w2⟩ := DataW.trod_string h2.2.1 q2
      obtain ⟨x3, b3, d3, w3⟩ := DataW.trod_int h3.2.1 q3
      obtain ⟨x4, b4, d4, w4⟩ := DataW.trod_int h4.2.1 q4
      obtain ⟨x5, b5, d5, w5⟩ := DataW.trod_string h5.2.1 q5
      simp at b0 b1 b2 b3 b4 b5
      have hmax : maxLen ≤ 9223372036854775807 := by decide
      simp only [Lit.wf, Bool.and_eq_true, decide_eq_true_eq] at w0 w3 w4
      refine ⟨⟨x0, x1.data.toList, x2.data.toList, x3, x4, x5.data.toList⟩, ?_, ?_, w0, w3, w4, ?_, ?_, ?_⟩
      · rw [b0, b1, b2, b3, b4, b5]; rfl
      · have := congrArg Prod.fst hx
        simp only at this
        rw [this]
        simp [Hop.dat, d0, d1, d2, d3, d4, d5]
      · exact Nat.le_trans (Nat.le_of_eq Array.length_toList) (Nat.le_trans w1 hmax)
      · exact Nat.le_trans (Nat.le_of_eq Array.length_toList) (Nat.le_trans w2 hmax)
      · exact Nat.le_trans (Nat.le_of_eq Array.length_toList) (Nat.le_trans w5 hmax)) hval h
  exact ⟨a, cap, ns, e1, e2, e3, ⟨sp, e4⟩, e5⟩
end Go.Eng

/-
  The walk of the law DraftOrigins, and how its argument is read. No condition.
-/

